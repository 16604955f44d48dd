/- A worker's step where it unlocks, and where it is told. -/
import Derived.Test.YtimkoepaeebleaaShStep
namespace Go.Proofs.Ytimkoepaeebleaa
open Go.RowKit

def TS.lockd (T : TS) (s : Nat) (p : Int) : TS := { T with own := T.own.set s p, mst := T.mst + 1 }

set_option maxRecDepth 100000 in
set_option maxHeartbeats 4000000 in
theorem Step_unlock (w : World) (S R : Nat → Prop) (T : TS) (i k : Nat) (asks : List Ask) (a : Ask) (x : Hand) (h : Ready w S R T i k asks a x) (hn : x.next = 4) (T' : TS)
    (hwk : isWk i = true) (ho : T.own[shOf T a]? = some (i : Int)) (hst : 0 ≤ T.mst) (hst' : T.mst ≤ 1000000000)
    (hT' : ∀ W, TableAt W S R (T.stepped.lockd (shOf T a) (-1)) → Calls Try.prog 53 #[.pointer (some ⟨T.bt, 0, none⟩), .int .i64 i, .pointer (some ⟨x.blk, 0, none⟩)] W (Stepped W S R T')) :
    Calls Try.prog 33 #[.pointer (some ⟨T.bt, 0, none⟩), .int .i64 i] w (Stepped w S R T') := by
  have HO := Lib.hid (And.intro hwk ho)
  clear hwk ho
  have H := Lib.hid h
  have HT := Lib.hid hT'
  have hkl : k < asks.length := (List.getElem?_eq_some_iff.1 h.ha).1
  have hD := Done_in w S R T h.tab i k asks h.hi h.hk
  rw [show decide (k = asks.length) = false by simp; omega] at hD
  have HD := Lib.hid hD
  have HA := Lib.hid (fun W (hb : Below w.heap.size w W) => ask_in W S R T (h.tab.below hb) i k asks a h.hi h.hk h.ha)
  have HL := Lib.hid (fun W (hb : Below w.heap.size w W) => (h.tab.below hb).hand_at h.hx)
  have n1 := h.tab.lt _ h.tab.s_bt
  have st1 := h.steps
  clear h hD hT'
  go_enter Try.func33, Try.ntmps33
  go_wp2_with fail
  refine HD.out.mono ?_
  rintro e w1 ⟨rfl, n, rfl⟩
  go_wp2_with fail
  refine (H.out.waits n).mono ?_
  rintro e w1 ⟨rfl, hb1⟩
  have hbl : Below w.heap.size w w1 := bl_trans (B' := (w.drewN n).heap.size) (Nat.le_refl _) hb1 (bl_drewN (Below.refl _ _))
  clear hb1
  have hz1 := hbl.size
  have h1 := H.out.tab.below hbl
  have c4 := h1.c4
  have l4 := HL.out w1 hbl
  have HT1 := Lib.hid h1
  clear h1
  go_upto_region 3 with fail
  go_cut [4, 5] (fun s4 s5 wx => ∃ B4, s4 = .pointer (some ⟨B4, 0, none⟩) ∧ s5 = .pointer (some ⟨x.blk, 0, none⟩) ∧ w1.heap.size ≤ B4 ∧ Below w1.heap.size w1 wx ∧ Blk wx B4 70 #[.int .i64 a.kind, .string a.key, .int .i64 a.value])
  case first =>
    have n2 : T.bt < w1.heap.size := by omega
    go_region_held3 (fun w' => w'.cell? ⟨T.bt, 4, none⟩ = some (.map (some T.hb)) ∧ (Instr.lookup 63 (.map (some T.hb)) (.int .i64 i) false).run Try.prog w' = .ok (.pointer (some ⟨x.blk, 0, none⟩)) w') (((repeat' with_reducible apply And.intro) <;> (first | ((with_reducible refine HL.out _ ?_); (repeat (first | with_reducible exact Below.refl _ _ | (with_reducible refine bl_drew ?_) | (with_reducible refine bl_drewN ?_) | (with_reducible refine bl_alloc ?_ ?_; (focus (first | omega | (simp; done) | (simp; omega)))) | (with_reducible refine bl_set ?_ ?_; (focus (first | omega | (simp; done) | (simp; omega)))) | (with_reducible refine bl_trans ?_ (by assumption) ?_; (focus (first | omega | (simp; done) | (simp; omega)))))); done) | ((first | (simp [go_sem, *]; done) | ((repeat' apply And.intro) <;> (first | (simp [go_sem, *]; done) | ((repeat (first | with_reducible assumption | (with_reducible apply keepD) | (with_reducible apply keepDN) | (with_reducible apply keepDf) | (with_reducible apply keepDNf) | (with_reducible refine keepA ?_ ?_; (focus (first | assumption | omega | (simp; done) | (simp; omega)))) | (with_reducible refine keepAf ?_ ?_; (focus (first | assumption | omega | (simp; done) | (simp; omega)))) | (with_reducible refine keepS ?_ ?_; (focus (first | assumption | omega | (simp; done) | (simp; omega) | (simp [*]; done)))) | (with_reducible apply keepSf) | (with_reducible refine keep1 (by assumption) ?_ ?_; (focus (first | assumption | omega | (simp; done) | (simp; omega)))) | (with_reducible refine keep1f (by assumption) ?_ ?_; (focus (first | assumption | omega | (simp; done) | (simp; omega)))) | (with_reducible refine keep2 (by assumption) ?_ ?_ ?_; (focus (first | assumption | omega | (simp; done) | (simp; omega))); (focus (first | assumption | omega | (simp; done) | (simp; omega) | (simp [*]; done)))) | (with_reducible refine keep2f (by assumption) ?_ ?_ ?_; (focus (first | assumption | omega | (simp; done) | (simp; omega))); (focus (first | assumption | omega | (simp; done) | (simp; omega) | (simp [*]; done)))))); done) | ((repeat (first | with_reducible assumption | (with_reducible apply keepD) | (with_reducible apply keepDN) | (with_reducible apply keepDf) | (with_reducible apply keepDNf) | (with_reducible refine keepA ?_ ?_; (focus (first | assumption | omega | (simp; done) | (simp; omega)))) | (with_reducible refine keepAf ?_ ?_; (focus (first | assumption | omega | (simp; done) | (simp; omega)))) | (with_reducible refine keepS ?_ ?_; (focus (first | assumption | omega | (simp; done) | (simp; omega) | (simp [*]; done)))) | (with_reducible apply keepSf) | (with_reducible refine keep1 (by assumption) ?_ ?_; (focus (first | assumption | omega | (simp; done) | (simp; omega)))) | (with_reducible refine keep1f (by assumption) ?_ ?_; (focus (first | assumption | omega | (simp; done) | (simp; omega)))) | (with_reducible refine keep2 (by assumption) ?_ ?_ ?_; (focus (first | assumption | omega | (simp; done) | (simp; omega))); (focus (first | assumption | omega | (simp; done) | (simp; omega) | (simp [*]; done)))) | (with_reducible refine keep2f (by assumption) ?_ ?_ ?_; (focus (first | assumption | omega | (simp; done) | (simp; omega))); (focus (first | assumption | omega | (simp; done) | (simp; omega) | (simp [*]; done)))))); simp [go_sem, *]; done))))))))
      ((first | (go_at_call 42; refine (HA.out _ (by (repeat (first | with_reducible exact Below.refl _ _ | (with_reducible refine bl_drew ?_) | (with_reducible refine bl_drewN ?_) | (with_reducible refine bl_alloc ?_ ?_; (focus (first | omega | (simp; done) | (simp; omega)))) | (with_reducible refine bl_set ?_ ?_; (focus (first | omega | (simp; done) | (simp; omega)))) | (with_reducible refine bl_trans ?_ (by assumption) ?_; (focus (first | omega | (simp; done) | (simp; omega)))))))).mono ?_; rintro e w2 ⟨rfl, hb_w2⟩; obtain ⟨hc_w2, hf_w2⟩ := bcell hb_w2; have hz_w2 := hb_w2.size; try simp at hz_w2)))
    all_goals (go_wp2_with fail; go_meet; (first | (refine ⟨w2.heap.size, rfl, rfl, by omega, (by (repeat (first | with_reducible exact Below.refl _ _ | (with_reducible refine bl_drew ?_) | (with_reducible refine bl_drewN ?_) | (with_reducible refine bl_alloc ?_ ?_; (focus (first | omega | (simp; done) | (simp; omega)))) | (with_reducible refine bl_set ?_ ?_; (focus (first | omega | (simp; done) | (simp; omega)))) | (with_reducible refine bl_trans ?_ (by assumption) ?_; (focus (first | omega | (simp; done) | (simp; omega))))))), ?_⟩; (apply bk_eq; (focus (repeat (first | with_reducible exact bk_new rfl | with_reducible assumption | (with_reducible apply bk_drew) | (with_reducible apply bk_drewN) | (with_reducible apply bk_alloc) | (with_reducible apply bk_set) | (with_reducible apply bk_far; (focus (first | assumption | omega | (simp; done) | (simp; omega)))) | (with_reducible apply bk_below; (focus assumption); (focus (first | assumption | omega | (simp; done) | (simp; omega))))))); (first | rfl | (simp; done) | trace_state))) | (refine ⟨w1.heap.size, rfl, rfl, Nat.le_refl _, (by (repeat (first | with_reducible exact Below.refl _ _ | (with_reducible refine bl_drew ?_) | (with_reducible refine bl_drewN ?_) | (with_reducible refine bl_alloc ?_ ?_; (focus (first | omega | (simp; done) | (simp; omega)))) | (with_reducible refine bl_set ?_ ?_; (focus (first | omega | (simp; done) | (simp; omega)))) | (with_reducible refine bl_trans ?_ (by assumption) ?_; (focus (first | omega | (simp; done) | (simp; omega))))))), ?_⟩; (apply bk_eq; (focus (repeat (first | with_reducible exact bk_new rfl | with_reducible assumption | (with_reducible apply bk_drew) | (with_reducible apply bk_drewN) | (with_reducible apply bk_alloc) | (with_reducible apply bk_set) | (with_reducible apply bk_far; (focus (first | assumption | omega | (simp; done) | (simp; omega)))) | (with_reducible apply bk_below; (focus assumption); (focus (first | assumption | omega | (simp; done) | (simp; omega))))))); (first | rfl | (simp; done) | trace_state)))))
  case rest =>
  obtain ⟨B4, rfl, rfl, hB4, hbx, hBlk⟩ := hcut
  have hbw := bl_trans hz1 hbx hbl
  have h2 := HT1.out.below hbx
  have HX2 := Lib.hid (h2.hand_cell H.out.hx)
  have c8 := h2.c8
  have e1 := HX2.out.cell 1
  have e2 := HX2.out.cell 2
  have e3 := HX2.out.cell 3
  have k0 := hBlk.cell 0
  have k1 := hBlk.cell 1
  have k2 := hBlk.cell 2
  simp only [List.getElem?_toArray, List.getElem?_cons_zero, List.getElem?_cons_succ] at e1 e2 e3 k0 k1 k2
  have m0 : wc.frozen? ⟨T.bt, 8, none⟩ = false := h2.tab.free 8
  have mf : ∀ o, wc.frozen? ⟨x.blk, o, none⟩ = false := HX2.out.free
  have hne : x.blk ≠ T.bt := HX2.out.ne_ h2.tab (by decide)
  have hne4 : B4 ≠ T.bt := by omega
  have hxl := HX2.out.lt
  have hnx : B4 ≠ x.blk := by have := (h2.hand_cell H.out.hx).lt; have := (HT1.out.hand_cell H.out.hx).lt; omega
  have HBk := Lib.hid hBlk
  have H2 := Lib.hid h2
  have HC := Lib.hid hbw
  clear h2 hbx hbl hbw c4 l4 hBlk
  rw [hn] at e1
  have sb := H2.out.s_bt
  have h3 := Lib.hid (H2.out.set_steps (w' := wc.setCell ⟨T.bt, 8, none⟩ (.int .i64 (T.steps + 1))) (by (repeat (first | with_reducible assumption | with_reducible exact Chg.refl _ _ | (with_reducible refine cg_drew ?_) | (with_reducible refine cg_drewN ?_) | (with_reducible refine cg_alloc ?_) | (with_reducible refine cg_set ?_ ?_; (focus (first | exact Or.inl (by assumption) | (simp; done) | (simp; omega)))) | (with_reducible refine cg_below (by assumption) ?_)))) (T.steps + 1) (by apply bk_eq; exact bk_set H2.out.tab; rfl))
  have hc3 : Chg S w (wc.setCell ⟨T.bt, 8, none⟩ (.int .i64 (T.steps + 1))) := cg_set (.inl sb) (cg_below HC.out (Chg.refl _ _))
  have HLk := Lib.hid (fun W (hb : Below (wc.setCell ⟨T.bt, 8, none⟩ (.int .i64 (T.steps + 1))).heap.size (wc.setCell ⟨T.bt, 8, none⟩ (.int .i64 (T.steps + 1))) W) => lock_in W S R _ (h3.out.below hb) i k asks a H.out.hi H.out.hk H.out.ha 4)
  have HDo : Hid (∀ W, Below (wc.setCell ⟨T.bt, 8, none⟩ (.int .i64 (T.steps + 1))).heap.size (wc.setCell ⟨T.bt, 8, none⟩ (.int .i64 (T.steps + 1))) W → Calls Try.prog 52 #[.pointer (some ⟨T.lk, 0, none⟩), .int .i64 i, .agg #[.int .i64 4, .int .i64 (ofL a.key.data.toList T.nsh), .int .i64 0, .int .i64 0]] W fun e w' => e = .returned (.tuple #[.int .i64 0, .int .i64 0]) ∧ Chg (fun b => b = T.lk ∨ b = T.ck) W w' ∧ MemAt w' T.lk T.ck T.nsh T.mcap (T.mst + 1) (T.own.set (shOf T a) (-1))) := by
    intro W hb
    rw [(shOf_eq H.out.tab a).1]
    exact Do_done T.lk T.ck T.nsh T.mcap (shOf T a) T.mst i T.own W HO.out.1 HO.out.2 (by have := H.out.tab.len_sh; omega) hst hst' (by obtain ⟨arr, hck, _⟩ := h3.out.mem.ckb; exact h3.out.mem.lkb.ne_ hck (by decide)) (h3.out.below hb).mem
  have c0 := H2.out.c0
  have n5 := H2.out.lt _ sb
  have n6 : T.bt ≠ T.lk := h3.out.tab.ne_ h3.out.mem.lkb (by decide)
  have n7 : T.bt ≠ T.ck := by obtain ⟨arr, hck, _⟩ := h3.out.mem.ckb; exact h3.out.tab.ne_ hck (by decide)
  go_wp2_with fail
  go_region_held3 (fun w' => w'.cell? ⟨T.bt, 0, none⟩ = some (.pointer (some ⟨T.lk, 0, none⟩))) (((first | (simp [go_sem, *]; done) | ((repeat' apply And.intro) <;> (first | (simp [go_sem, *]; done) | ((repeat (first | with_reducible assumption | (with_reducible apply keepD) | (with_reducible apply keepDN) | (with_reducible apply keepDf) | (with_reducible apply keepDNf) | (with_reducible refine keepA ?_ ?_; (focus (first | assumption | omega | (simp; done) | (simp; omega)))) | (with_reducible refine keepAf ?_ ?_; (focus (first | assumption | omega | (simp; done) | (simp; omega)))) | (with_reducible refine keepS ?_ ?_; (focus (first | assumption | omega | (simp; done) | (simp; omega) | (simp [*]; done)))) | (with_reducible apply keepSf) | (with_reducible refine keep1 (by assumption) ?_ ?_; (focus (first | assumption | omega | (simp; done) | (simp; omega)))) | (with_reducible refine keep1f (by assumption) ?_ ?_; (focus (first | assumption | omega | (simp; done) | (simp; omega)))) | (with_reducible refine keep2 (by assumption) ?_ ?_ ?_; (focus (first | assumption | omega | (simp; done) | (simp; omega))); (focus (first | assumption | omega | (simp; done) | (simp; omega) | (simp [*]; done)))) | (with_reducible refine keep2f (by assumption) ?_ ?_ ?_; (focus (first | assumption | omega | (simp; done) | (simp; omega))); (focus (first | assumption | omega | (simp; done) | (simp; omega) | (simp [*]; done)))))); done) | ((repeat (first | with_reducible assumption | (with_reducible apply keepD) | (with_reducible apply keepDN) | (with_reducible apply keepDf) | (with_reducible apply keepDNf) | (with_reducible refine keepA ?_ ?_; (focus (first | assumption | omega | (simp; done) | (simp; omega)))) | (with_reducible refine keepAf ?_ ?_; (focus (first | assumption | omega | (simp; done) | (simp; omega)))) | (with_reducible refine keepS ?_ ?_; (focus (first | assumption | omega | (simp; done) | (simp; omega) | (simp [*]; done)))) | (with_reducible apply keepSf) | (with_reducible refine keep1 (by assumption) ?_ ?_; (focus (first | assumption | omega | (simp; done) | (simp; omega)))) | (with_reducible refine keep1f (by assumption) ?_ ?_; (focus (first | assumption | omega | (simp; done) | (simp; omega)))) | (with_reducible refine keep2 (by assumption) ?_ ?_ ?_; (focus (first | assumption | omega | (simp; done) | (simp; omega))); (focus (first | assumption | omega | (simp; done) | (simp; omega) | (simp [*]; done)))) | (with_reducible refine keep2f (by assumption) ?_ ?_ ?_; (focus (first | assumption | omega | (simp; done) | (simp; omega))); (focus (first | assumption | omega | (simp; done) | (simp; omega) | (simp [*]; done)))))); simp [go_sem, *]; done))))))
    ((first | (go_at_call 41; refine (HLk.out _ (by (repeat (first | with_reducible exact Below.refl _ _ | (with_reducible refine bl_drew ?_) | (with_reducible refine bl_drewN ?_) | (with_reducible refine bl_alloc ?_ ?_; (focus (first | omega | (simp; done) | (simp; omega)))) | (with_reducible refine bl_set ?_ ?_; (focus (first | omega | (simp; done) | (simp; omega)))) | (with_reducible refine bl_trans ?_ (by assumption) ?_; (focus (first | omega | (simp; done) | (simp; omega)))))))).mono ?_; rintro e w3 ⟨rfl, hb_w3⟩; obtain ⟨hc_w3, hf_w3⟩ := bcell hb_w3; have hz_w3 := hb_w3.size; try simp at hz_w3) | (go_at_call 52; refine (HDo.out _ (by (repeat (first | with_reducible exact Below.refl _ _ | (with_reducible refine bl_drew ?_) | (with_reducible refine bl_drewN ?_) | (with_reducible refine bl_alloc ?_ ?_; (focus (first | omega | (simp; done) | (simp; omega)))) | (with_reducible refine bl_set ?_ ?_; (focus (first | omega | (simp; done) | (simp; omega)))) | (with_reducible refine bl_trans ?_ (by assumption) ?_; (focus (first | omega | (simp; done) | (simp; omega)))))))).mono ?_; rintro e w4 ⟨rfl, hC4, hM4⟩)))
  have h4 := Lib.hid (TableAt.set_mem (h3.out.below (w' := w3) (by (repeat (first | with_reducible exact Below.refl _ _ | (with_reducible refine bl_drew ?_) | (with_reducible refine bl_drewN ?_) | (with_reducible refine bl_alloc ?_ ?_; (focus (first | omega | (simp; done) | (simp; omega)))) | (with_reducible refine bl_set ?_ ?_; (focus (first | omega | (simp; done) | (simp; omega)))) | (with_reducible refine bl_trans ?_ (by assumption) ?_; (focus (first | omega | (simp; done) | (simp; omega)))))))) hC4 _ _ hM4)
  have hcw : Chg S w w4 := Chg.then_ (cg_below (w := (wc.setCell ⟨T.bt, 8, none⟩ (.int .i64 (T.steps + 1)))) (w' := w3) (by (repeat (first | with_reducible exact Below.refl _ _ | (with_reducible refine bl_drew ?_) | (with_reducible refine bl_drewN ?_) | (with_reducible refine bl_alloc ?_ ?_; (focus (first | omega | (simp; done) | (simp; omega)))) | (with_reducible refine bl_set ?_ ?_; (focus (first | omega | (simp; done) | (simp; omega)))) | (with_reducible refine bl_trans ?_ (by assumption) ?_; (focus (first | omega | (simp; done) | (simp; omega))))))) hc3) hC4 (fun b _ e => by rcases e with rfl | rfl; exact H2.out.s_lk; exact H2.out.s_ck)
  clear hC4 hM4
  go_wp2_with fail
  refine (HT.out _ (h4.out.below (by (repeat (first | with_reducible exact Below.refl _ _ | (with_reducible refine bl_drew ?_) | (with_reducible refine bl_drewN ?_) | (with_reducible refine bl_alloc ?_ ?_; (focus (first | omega | (simp; done) | (simp; omega)))) | (with_reducible refine bl_set ?_ ?_; (focus (first | omega | (simp; done) | (simp; omega)))) | (with_reducible refine bl_trans ?_ (by assumption) ?_; (focus (first | omega | (simp; done) | (simp; omega))))))))).mono ?_
  rintro e w5 ⟨rfl, hT5, hC5⟩
  go_wp2_with fail
  go_end0
  exact ⟨rfl, hT5, Chg.trans hcw hC5⟩

set_option maxRecDepth 100000 in
set_option maxHeartbeats 4000000 in
theorem Step_told (w : World) (S R : Nat → Prop) (T : TS) (i k : Nat) (asks : List Ask) (a : Ask) (x : Hand) (h : Ready w S R T i k asks a x) (hn : x.next = 5) (T' : TS) (c : CallR) (hc : T.past[x.at_]? = some c) (hpast : T.past.length ≤ 1000000) (v : Int) (hv : v = (mget T.values a.key).getD 0)
    (hT' : T' = T.stepped.ended i k x c v 0) :
    Calls Try.prog 33 #[.pointer (some ⟨T.bt, 0, none⟩), .int .i64 i] w (Stepped w S R T') := by
  have HVF := Lib.hid hv
  have HCC := Lib.hid hc
  clear hv hc
  have H := Lib.hid h
  have HT := Lib.hid hT'
  have hkl : k < asks.length := (List.getElem?_eq_some_iff.1 h.ha).1
  have hD := Done_in w S R T h.tab i k asks h.hi h.hk
  rw [show decide (k = asks.length) = false by simp; omega] at hD
  have HD := Lib.hid hD
  have HA := Lib.hid (fun W (hb : Below w.heap.size w W) => ask_in W S R T (h.tab.below hb) i k asks a h.hi h.hk h.ha)
  have HL := Lib.hid (fun W (hb : Below w.heap.size w W) => (h.tab.below hb).hand_at h.hx)
  have n1 := h.tab.lt _ h.tab.s_bt
  have st1 := h.steps
  clear h hD hT'
  go_enter Try.func33, Try.ntmps33
  go_wp2_with fail
  refine HD.out.mono ?_
  rintro e w1 ⟨rfl, n, rfl⟩
  go_wp2_with fail
  refine (H.out.waits n).mono ?_
  rintro e w1 ⟨rfl, hb1⟩
  have hbl : Below w.heap.size w w1 := bl_trans (B' := (w.drewN n).heap.size) (Nat.le_refl _) hb1 (bl_drewN (Below.refl _ _))
  clear hb1
  have hz1 := hbl.size
  have h1 := H.out.tab.below hbl
  have c4 := h1.c4
  have l4 := HL.out w1 hbl
  have HT1 := Lib.hid h1
  clear h1
  go_upto_region 3 with fail
  go_cut [4, 5] (fun s4 s5 wx => ∃ B4, s4 = .pointer (some ⟨B4, 0, none⟩) ∧ s5 = .pointer (some ⟨x.blk, 0, none⟩) ∧ w1.heap.size ≤ B4 ∧ Below w1.heap.size w1 wx ∧ Blk wx B4 70 #[.int .i64 a.kind, .string a.key, .int .i64 a.value])
  case first =>
    have n2 : T.bt < w1.heap.size := by omega
    go_region_held3 (fun w' => w'.cell? ⟨T.bt, 4, none⟩ = some (.map (some T.hb)) ∧ (Instr.lookup 63 (.map (some T.hb)) (.int .i64 i) false).run Try.prog w' = .ok (.pointer (some ⟨x.blk, 0, none⟩)) w') (((repeat' with_reducible apply And.intro) <;> (first | ((with_reducible refine HL.out _ ?_); (repeat (first | with_reducible exact Below.refl _ _ | (with_reducible refine bl_drew ?_) | (with_reducible refine bl_drewN ?_) | (with_reducible refine bl_alloc ?_ ?_; (focus (first | omega | (simp; done) | (simp; omega)))) | (with_reducible refine bl_set ?_ ?_; (focus (first | omega | (simp; done) | (simp; omega)))) | (with_reducible refine bl_trans ?_ (by assumption) ?_; (focus (first | omega | (simp; done) | (simp; omega)))))); done) | ((first | (simp [go_sem, *]; done) | ((repeat' apply And.intro) <;> (first | (simp [go_sem, *]; done) | ((repeat (first | with_reducible assumption | (with_reducible apply keepD) | (with_reducible apply keepDN) | (with_reducible apply keepDf) | (with_reducible apply keepDNf) | (with_reducible refine keepA ?_ ?_; (focus (first | assumption | omega | (simp; done) | (simp; omega)))) | (with_reducible refine keepAf ?_ ?_; (focus (first | assumption | omega | (simp; done) | (simp; omega)))) | (with_reducible refine keepS ?_ ?_; (focus (first | assumption | omega | (simp; done) | (simp; omega) | (simp [*]; done)))) | (with_reducible apply keepSf) | (with_reducible refine keep1 (by assumption) ?_ ?_; (focus (first | assumption | omega | (simp; done) | (simp; omega)))) | (with_reducible refine keep1f (by assumption) ?_ ?_; (focus (first | assumption | omega | (simp; done) | (simp; omega)))) | (with_reducible refine keep2 (by assumption) ?_ ?_ ?_; (focus (first | assumption | omega | (simp; done) | (simp; omega))); (focus (first | assumption | omega | (simp; done) | (simp; omega) | (simp [*]; done)))) | (with_reducible refine keep2f (by assumption) ?_ ?_ ?_; (focus (first | assumption | omega | (simp; done) | (simp; omega))); (focus (first | assumption | omega | (simp; done) | (simp; omega) | (simp [*]; done)))))); done) | ((repeat (first | with_reducible assumption | (with_reducible apply keepD) | (with_reducible apply keepDN) | (with_reducible apply keepDf) | (with_reducible apply keepDNf) | (with_reducible refine keepA ?_ ?_; (focus (first | assumption | omega | (simp; done) | (simp; omega)))) | (with_reducible refine keepAf ?_ ?_; (focus (first | assumption | omega | (simp; done) | (simp; omega)))) | (with_reducible refine keepS ?_ ?_; (focus (first | assumption | omega | (simp; done) | (simp; omega) | (simp [*]; done)))) | (with_reducible apply keepSf) | (with_reducible refine keep1 (by assumption) ?_ ?_; (focus (first | assumption | omega | (simp; done) | (simp; omega)))) | (with_reducible refine keep1f (by assumption) ?_ ?_; (focus (first | assumption | omega | (simp; done) | (simp; omega)))) | (with_reducible refine keep2 (by assumption) ?_ ?_ ?_; (focus (first | assumption | omega | (simp; done) | (simp; omega))); (focus (first | assumption | omega | (simp; done) | (simp; omega) | (simp [*]; done)))) | (with_reducible refine keep2f (by assumption) ?_ ?_ ?_; (focus (first | assumption | omega | (simp; done) | (simp; omega))); (focus (first | assumption | omega | (simp; done) | (simp; omega) | (simp [*]; done)))))); simp [go_sem, *]; done))))))))
      ((first | (go_at_call 42; refine (HA.out _ (by (repeat (first | with_reducible exact Below.refl _ _ | (with_reducible refine bl_drew ?_) | (with_reducible refine bl_drewN ?_) | (with_reducible refine bl_alloc ?_ ?_; (focus (first | omega | (simp; done) | (simp; omega)))) | (with_reducible refine bl_set ?_ ?_; (focus (first | omega | (simp; done) | (simp; omega)))) | (with_reducible refine bl_trans ?_ (by assumption) ?_; (focus (first | omega | (simp; done) | (simp; omega)))))))).mono ?_; rintro e w2 ⟨rfl, hb_w2⟩; obtain ⟨hc_w2, hf_w2⟩ := bcell hb_w2; have hz_w2 := hb_w2.size; try simp at hz_w2)))
    all_goals (go_wp2_with fail; go_meet; (first | (refine ⟨w2.heap.size, rfl, rfl, by omega, (by (repeat (first | with_reducible exact Below.refl _ _ | (with_reducible refine bl_drew ?_) | (with_reducible refine bl_drewN ?_) | (with_reducible refine bl_alloc ?_ ?_; (focus (first | omega | (simp; done) | (simp; omega)))) | (with_reducible refine bl_set ?_ ?_; (focus (first | omega | (simp; done) | (simp; omega)))) | (with_reducible refine bl_trans ?_ (by assumption) ?_; (focus (first | omega | (simp; done) | (simp; omega))))))), ?_⟩; (apply bk_eq; (focus (repeat (first | with_reducible exact bk_new rfl | with_reducible assumption | (with_reducible apply bk_drew) | (with_reducible apply bk_drewN) | (with_reducible apply bk_alloc) | (with_reducible apply bk_set) | (with_reducible apply bk_far; (focus (first | assumption | omega | (simp; done) | (simp; omega)))) | (with_reducible apply bk_below; (focus assumption); (focus (first | assumption | omega | (simp; done) | (simp; omega))))))); (first | rfl | (simp; done) | trace_state))) | (refine ⟨w1.heap.size, rfl, rfl, Nat.le_refl _, (by (repeat (first | with_reducible exact Below.refl _ _ | (with_reducible refine bl_drew ?_) | (with_reducible refine bl_drewN ?_) | (with_reducible refine bl_alloc ?_ ?_; (focus (first | omega | (simp; done) | (simp; omega)))) | (with_reducible refine bl_set ?_ ?_; (focus (first | omega | (simp; done) | (simp; omega)))) | (with_reducible refine bl_trans ?_ (by assumption) ?_; (focus (first | omega | (simp; done) | (simp; omega))))))), ?_⟩; (apply bk_eq; (focus (repeat (first | with_reducible exact bk_new rfl | with_reducible assumption | (with_reducible apply bk_drew) | (with_reducible apply bk_drewN) | (with_reducible apply bk_alloc) | (with_reducible apply bk_set) | (with_reducible apply bk_far; (focus (first | assumption | omega | (simp; done) | (simp; omega)))) | (with_reducible apply bk_below; (focus assumption); (focus (first | assumption | omega | (simp; done) | (simp; omega))))))); (first | rfl | (simp; done) | trace_state)))))
  case rest =>
  obtain ⟨B4, rfl, rfl, hB4, hbx, hBlk⟩ := hcut
  have hbw := bl_trans hz1 hbx hbl
  have h2 := HT1.out.below hbx
  have HX2 := Lib.hid (h2.hand_cell H.out.hx)
  have c8 := h2.c8
  have e1 := HX2.out.cell 1
  have e2 := HX2.out.cell 2
  have e3 := HX2.out.cell 3
  have k0 := hBlk.cell 0
  have k1 := hBlk.cell 1
  have k2 := hBlk.cell 2
  simp only [List.getElem?_toArray, List.getElem?_cons_zero, List.getElem?_cons_succ] at e1 e2 e3 k0 k1 k2
  have m0 : wc.frozen? ⟨T.bt, 8, none⟩ = false := h2.tab.free 8
  have mf : ∀ o, wc.frozen? ⟨x.blk, o, none⟩ = false := HX2.out.free
  have hne : x.blk ≠ T.bt := HX2.out.ne_ h2.tab (by decide)
  have hne4 : B4 ≠ T.bt := by omega
  have hxl := HX2.out.lt
  have hnx : B4 ≠ x.blk := by have := (h2.hand_cell H.out.hx).lt; have := (HT1.out.hand_cell H.out.hx).lt; omega
  have HBk := Lib.hid hBlk
  have H2 := Lib.hid h2
  have HC := Lib.hid hbw
  clear h2 hbx hbl hbw c4 l4 hBlk
  rw [hn] at e1
  have HV := Lib.hid (show ∀ W, Chg (fun g => g = T.bt ∨ g = x.blk) wc W → (Instr.lookup 57 (.map (some T.vb)) (.string a.key) false).run Try.prog W = .ok (.int .i64 v) W from fun W hC => by
    have := (H2.out.values.chg hC (by rintro (e | e); exact blk_ne_map H2.out.tab H2.out.values e.symm; exact blk_ne_map HX2.out H2.out.values e.symm)).look keyK Try.underlying57 (zero_i64 W) a.key false
    rw [HVF.out]
    cases hm : mget T.values a.key <;> (rw [hm] at this; exact this))
  have c5 := H2.out.c5
  have sb := H2.out.s_bt
  have n5 := H2.out.lt _ sb
  have h3 := Lib.hid (H2.out.set_steps (w' := wc.setCell ⟨T.bt, 8, none⟩ (.int .i64 (T.steps + 1))) (by (repeat (first | with_reducible assumption | with_reducible exact Chg.refl _ _ | (with_reducible refine cg_drew ?_) | (with_reducible refine cg_drewN ?_) | (with_reducible refine cg_alloc ?_) | (with_reducible refine cg_set ?_ ?_; (focus (first | exact Or.inl (by assumption) | (simp; done) | (simp; omega)))) | (with_reducible refine cg_below (by assumption) ?_)))) (T.steps + 1) (by apply bk_eq; exact bk_set H2.out.tab; rfl))
  have hc3 : Chg S w (wc.setCell ⟨T.bt, 8, none⟩ (.int .i64 (T.steps + 1))) := cg_set (.inl sb) (cg_below HC.out (Chg.refl _ _))
  have hk2 : k ≤ 1000000 := by have := H.out.tab.len_a i asks H.out.hi; omega
  have HE := Lib.hid (fun W (hb : Below (wc.setCell ⟨T.bt, 8, none⟩ (.int .i64 (T.steps + 1))).heap.size (wc.setCell ⟨T.bt, 8, none⟩ (.int .i64 (T.steps + 1))) W) => ends_in W S R _ (h3.out.below hb) i k x c v 0 H.out.hk H.out.hx HCC.out hk2 hpast)
  go_wp2_with fail
  have lk := HV.out (wc.setCell ⟨T.bt, 8, none⟩ (.int .i64 (T.steps + 1))).drew (by (repeat (first | with_reducible assumption | with_reducible exact Chg.refl _ _ | (with_reducible refine cg_drew ?_) | (with_reducible refine cg_drewN ?_) | (with_reducible refine cg_alloc ?_) | (with_reducible refine cg_set ?_ ?_; (focus (first | exact Or.inl (by assumption) | (simp; done) | (simp; omega)))) | (with_reducible refine cg_below (by assumption) ?_))))
  have HE' := HE.out (wc.setCell ⟨T.bt, 8, none⟩ (.int .i64 (T.steps + 1))).drew (by (repeat (first | with_reducible exact Below.refl _ _ | (with_reducible refine bl_drew ?_) | (with_reducible refine bl_drewN ?_) | (with_reducible refine bl_alloc ?_ ?_; (focus (first | omega | (simp; done) | (simp; omega)))) | (with_reducible refine bl_set ?_ ?_; (focus (first | omega | (simp; done) | (simp; omega)))) | (with_reducible refine bl_trans ?_ (by assumption) ?_; (focus (first | omega | (simp; done) | (simp; omega)))))))
  go_region_with ((go_at_call 54; refine HE'.mono ?_; rintro e w5 ⟨rfl, hT5, hC5⟩))
  all_goals (go_wp2_with fail; go_end0; rw [HT.out]; exact ⟨rfl, hT5, Chg.trans (cg_drew hc3) hC5⟩)
end Go.Proofs.Ytimkoepaeebleaa
