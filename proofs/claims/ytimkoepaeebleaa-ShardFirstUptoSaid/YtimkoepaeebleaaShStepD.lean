/- A worker's step where it begins and locks, and where it stays. -/
import Derived.Test.YtimkoepaeebleaaShStepC
namespace Go.Proofs.Ytimkoepaeebleaa
open Go.RowKit

set_option maxHeartbeats 1000000 in
theorem Step_done (w : World) (S R : Nat → Prop) (T : TS) (h : TableAt w S R T) (i : Int) (hD : Calls Try.prog 17 #[.pointer (some ⟨T.bt, 0, none⟩), .int .i64 i] w fun e w' => e = .returned (.bool true) ∧ ∃ n, w' = w.drewN n) :
    Calls Try.prog 33 #[.pointer (some ⟨T.bt, 0, none⟩), .int .i64 i] w (Stepped w S R T) := by
  have HD := Lib.hid hD
  have H := Lib.hid h
  clear h hD
  go_enter Try.func33, Try.ntmps33
  go_wp2_with fail
  refine HD.out.mono ?_
  rintro e w1 ⟨rfl, n, rfl⟩
  go_wp2_with fail
  go_end0
  exact ⟨rfl, H.out.drewN n, cg_drewN (Chg.refl _ _)⟩

set_option maxHeartbeats 1000000 in
theorem Step_waits (w : World) (S R : Nat → Prop) (T : TS) (h : TableAt w S R T) (i : Int) (hD : Calls Try.prog 17 #[.pointer (some ⟨T.bt, 0, none⟩), .int .i64 i] w fun e w' => e = .returned (.bool false) ∧ ∃ n, w' = w.drewN n)
    (hW : ∀ n, Calls Try.prog 18 #[.pointer (some ⟨T.bt, 0, none⟩), .int .i64 i] (w.drewN n) fun e w' => e = .returned (.bool true) ∧ Below (w.drewN n).heap.size (w.drewN n) w') :
    Calls Try.prog 33 #[.pointer (some ⟨T.bt, 0, none⟩), .int .i64 i] w (Stepped w S R T) := by
  have HD := Lib.hid hD
  have HW := Lib.hid hW
  have H := Lib.hid h
  clear h hD hW
  go_enter Try.func33, Try.ntmps33
  go_wp2_with fail
  refine HD.out.mono ?_
  rintro e w1 ⟨rfl, n, rfl⟩
  go_wp2_with fail
  refine (HW.out n).mono ?_
  rintro e w1 ⟨rfl, hb1⟩
  go_wp2_with fail
  go_end0
  have hbl : Below w.heap.size w w1 := bl_trans (B' := (w.drewN n).heap.size) (Nat.le_refl _) hb1 (bl_drewN (Below.refl _ _))
  exact ⟨rfl, H.out.below hbl, cg_below hbl (Chg.refl _ _)⟩

theorem TableAt.wider {w : World} {S S' R : Nat → Prop} {T : TS} (h : TableAt w S R T) (h1 : ∀ b, S b → S' b) (h2 : ∀ b, S' b → b < w.heap.size) (h3 : ∀ b, R b → ¬ S' b) : TableAt w S' R T :=
  { h with s_bt := h1 _ h.s_bt, s_lk := h1 _ h.s_lk, s_ck := h1 _ h.s_ck, s_ba := h1 _ h.s_ba, s_hb := h1 _ h.s_hb, s_vb := h1 _ h.s_vb, s_tb := h1 _ h.s_tb,
           s_pv := fun b hb => h1 b (h.s_pv b hb), s_hand := fun p hp => h1 _ (h.s_hand p hp), lt := h2, dis := h3 }

/-- The word for a step that begins a call. -/
def SteppedNew (w : World) (S R : Nat → Prop) (T : TS) (i : Nat) (a : Ask) (e : Ending) (w' : World) : Prop :=
  ∃ blk pv, e = .returned (.tuple #[]) ∧ TableAt w' (grow S w w') R (((T.begun i a blk pv).stepped.lockd (shOf T a) i).hand i ⟨blk, T.past.length, 1, false, 0⟩) ∧ Chg S w w'

set_option maxRecDepth 100000 in
set_option maxHeartbeats 4000000 in
theorem Step_lock (w : World) (S R : Nat → Prop) (T : TS) (h : TableAt w S R T) (i k : Nat) (asks : List Ask) (a : Ask) (hi : T.work[i]? = some asks) (hk : T.at_[i]? = some k) (ha : asks[k]? = some a) (hn : mget T.hands i = none)
    (hpast : T.past.length ≤ 1000000) (st1 : T.steps ≤ 1000000) (hwk : isWk i = true) (ho : T.own[shOf T a]? = some (-1)) (hst : 0 ≤ T.mst) (hst' : T.mst ≤ 1000000000)
    (hW : ∀ n, Calls Try.prog 18 #[.pointer (some ⟨T.bt, 0, none⟩), .int .i64 i] (w.drewN n) fun e w' => e = .returned (.bool false) ∧ Below (w.drewN n).heap.size (w.drewN n) w') :
    Calls Try.prog 33 #[.pointer (some ⟨T.bt, 0, none⟩), .int .i64 i] w (SteppedNew w S R T i a) := by
  have H := Lib.hid h
  have HW := Lib.hid hW
  have HO := Lib.hid (And.intro hwk ho)
  have HI := Lib.hid (And.intro hi (And.intro hk ha))
  have HN := Lib.hid hn
  have hkl : k < asks.length := (List.getElem?_eq_some_iff.1 ha).1
  have hD := Done_in w S R T h i k asks hi hk
  rw [show decide (k = asks.length) = false by simp; omega] at hD
  have HD := Lib.hid hD
  have HB := Lib.hid (fun W (hb : Below w.heap.size w W) => begins_in W S R T (h.below hb) i k asks a hi hk ha hn hpast)
  have HL := Lib.hid (fun W (hb : Below w.heap.size w W) => (h.below hb).hand_no hn)
  have n0 := h.lt _ h.s_bt
  clear h hD hwk ho hi hk ha hn hW
  go_enter Try.func33, Try.ntmps33
  go_wp2_with fail
  refine HD.out.mono ?_
  rintro e w0 ⟨rfl, n, rfl⟩
  go_wp2_with fail
  refine (HW.out n).mono ?_
  rintro e w0 ⟨rfl, hb1⟩
  have hbl : Below w.heap.size w w0 := bl_trans (B' := (w.drewN n).heap.size) (Nat.le_refl _) hb1 (bl_drewN (Below.refl _ _))
  clear hb1
  have hz0 := hbl.size
  have c4' := (H.out.below hbl).c4
  have l4' := HL.out w0 hbl
  go_wp2_with fail
  refine (HB.out _ hbl).mono ?_
  rintro e w1 ⟨blk, pv, rfl, hT1, hC1⟩
  have hz1 := hC1.size
  have hC0 := Lib.hid ((cg_below hbl (Chg.refl S w)).trans hC1)
  have hg : ∀ b, grow S w0 w1 b → grow S w w1 b := by
    rintro b (hb | ⟨h1, h2⟩)
    · exact .inl hb
    · exact .inr ⟨by omega, h2⟩
  have hT1 := hT1.wider hg (by rintro b (hb | ⟨_, hb⟩); have := H.out.lt b hb; omega; exact hb) (by rintro b hr (hb | ⟨hb, _⟩); exact H.out.dis b hr hb; have := H.out.ltR b hr; omega)
  obtain ⟨S1, hS1⟩ : ∃ S1 : Nat → Prop, S1 = grow S w w1 := ⟨_, rfl⟩
  rw [← hS1] at hT1
  have HS1 := Lib.hid hS1
  clear hS1 hg hC1 c4' l4'
  have hx : mget (T.begun i a blk pv).hands i = some ⟨blk, T.past.length, 0, false, 0⟩ := by
    show mget (mput T.hands i _) i = _
    rw [mget_put, if_pos rfl]
  have HX := Lib.hid hx
  have HA : Hid (∀ W, Below w1.heap.size w1 W → Calls Try.prog 42 #[.pointer (some ⟨T.bt, 0, none⟩), .int .i64 i] W fun e w' => e = .returned (.agg #[.int .i64 a.kind, .string a.key, .int .i64 a.value]) ∧ Below W.heap.size W w') :=
    Lib.hid (fun W hb => ask_in W S1 R _ (hT1.below hb) i k asks a HI.out.1 HI.out.2.1 HI.out.2.2)
  have HL1 : Hid (∀ W, Below w1.heap.size w1 W → (Instr.lookup 63 (.map (some T.hb)) (.int .i64 i) false).run Try.prog W = .ok (.pointer (some ⟨blk, 0, none⟩)) W) :=
    Lib.hid (fun W hb => (hT1.below hb).hand_at hx)
  have c4 : w1.cell? ⟨T.bt, 4, none⟩ = some (.map (some T.hb)) := hT1.c4
  have l4 := HL1.out w1 (Below.refl _ _)
  have HT1 := Lib.hid hT1
  have n2 : T.bt < w1.heap.size := by omega
  clear hT1 hx
  go_upto_region 3 with fail
  go_cut [4, 5] (fun s4 s5 wx => ∃ B4, s4 = .pointer (some ⟨B4, 0, none⟩) ∧ s5 = .pointer (some ⟨blk, 0, none⟩) ∧ w1.heap.size ≤ B4 ∧ Below w1.heap.size w1 wx ∧ Blk wx B4 70 #[.int .i64 a.kind, .string a.key, .int .i64 a.value])
  case first =>
    go_region_held3 (fun w' => w'.cell? ⟨T.bt, 4, none⟩ = some (.map (some T.hb)) ∧ (Instr.lookup 63 (.map (some T.hb)) (.int .i64 i) false).run Try.prog w' = .ok (.pointer (some ⟨blk, 0, none⟩)) w') (((repeat' with_reducible apply And.intro) <;> (first | ((with_reducible refine HL1.out _ ?_); (repeat (first | with_reducible exact Below.refl _ _ | (with_reducible refine bl_drew ?_) | (with_reducible refine bl_drewN ?_) | (with_reducible refine bl_alloc ?_ ?_; (focus (first | omega | (simp; done) | (simp; omega)))) | (with_reducible refine bl_set ?_ ?_; (focus (first | omega | (simp; done) | (simp; omega)))) | (with_reducible refine bl_trans ?_ (by assumption) ?_; (focus (first | omega | (simp; done) | (simp; omega)))))); done) | ((first | (simp [go_sem, *]; done) | ((repeat' apply And.intro) <;> (first | (simp [go_sem, *]; done) | ((repeat (first | with_reducible assumption | (with_reducible apply keepD) | (with_reducible apply keepDN) | (with_reducible apply keepDf) | (with_reducible apply keepDNf) | (with_reducible refine keepA ?_ ?_; (focus (first | assumption | omega | (simp; done) | (simp; omega)))) | (with_reducible refine keepAf ?_ ?_; (focus (first | assumption | omega | (simp; done) | (simp; omega)))) | (with_reducible refine keepS ?_ ?_; (focus (first | assumption | omega | (simp; done) | (simp; omega) | (simp [*]; done)))) | (with_reducible apply keepSf) | (with_reducible refine keep1 (by assumption) ?_ ?_; (focus (first | assumption | omega | (simp; done) | (simp; omega)))) | (with_reducible refine keep1f (by assumption) ?_ ?_; (focus (first | assumption | omega | (simp; done) | (simp; omega)))) | (with_reducible refine keep2 (by assumption) ?_ ?_ ?_; (focus (first | assumption | omega | (simp; done) | (simp; omega))); (focus (first | assumption | omega | (simp; done) | (simp; omega) | (simp [*]; done)))) | (with_reducible refine keep2f (by assumption) ?_ ?_ ?_; (focus (first | assumption | omega | (simp; done) | (simp; omega))); (focus (first | assumption | omega | (simp; done) | (simp; omega) | (simp [*]; done)))))); done) | ((repeat (first | with_reducible assumption | (with_reducible apply keepD) | (with_reducible apply keepDN) | (with_reducible apply keepDf) | (with_reducible apply keepDNf) | (with_reducible refine keepA ?_ ?_; (focus (first | assumption | omega | (simp; done) | (simp; omega)))) | (with_reducible refine keepAf ?_ ?_; (focus (first | assumption | omega | (simp; done) | (simp; omega)))) | (with_reducible refine keepS ?_ ?_; (focus (first | assumption | omega | (simp; done) | (simp; omega) | (simp [*]; done)))) | (with_reducible apply keepSf) | (with_reducible refine keep1 (by assumption) ?_ ?_; (focus (first | assumption | omega | (simp; done) | (simp; omega)))) | (with_reducible refine keep1f (by assumption) ?_ ?_; (focus (first | assumption | omega | (simp; done) | (simp; omega)))) | (with_reducible refine keep2 (by assumption) ?_ ?_ ?_; (focus (first | assumption | omega | (simp; done) | (simp; omega))); (focus (first | assumption | omega | (simp; done) | (simp; omega) | (simp [*]; done)))) | (with_reducible refine keep2f (by assumption) ?_ ?_ ?_; (focus (first | assumption | omega | (simp; done) | (simp; omega))); (focus (first | assumption | omega | (simp; done) | (simp; omega) | (simp [*]; done)))))); simp [go_sem, *]; done))))))))
      ((first | (go_at_call 42; refine (HA.out _ (by (repeat (first | with_reducible exact Below.refl _ _ | (with_reducible refine bl_drew ?_) | (with_reducible refine bl_drewN ?_) | (with_reducible refine bl_alloc ?_ ?_; (focus (first | omega | (simp; done) | (simp; omega)))) | (with_reducible refine bl_set ?_ ?_; (focus (first | omega | (simp; done) | (simp; omega)))) | (with_reducible refine bl_trans ?_ (by assumption) ?_; (focus (first | omega | (simp; done) | (simp; omega)))))))).mono ?_; rintro e w2 ⟨rfl, hb_w2⟩; obtain ⟨hc_w2, hf_w2⟩ := bcell hb_w2; have hz_w2 := hb_w2.size; try simp at hz_w2)))
    all_goals (go_wp2_with fail; go_meet; (first | (refine ⟨w2.heap.size, rfl, rfl, by omega, (by (repeat (first | with_reducible exact Below.refl _ _ | (with_reducible refine bl_drew ?_) | (with_reducible refine bl_drewN ?_) | (with_reducible refine bl_alloc ?_ ?_; (focus (first | omega | (simp; done) | (simp; omega)))) | (with_reducible refine bl_set ?_ ?_; (focus (first | omega | (simp; done) | (simp; omega)))) | (with_reducible refine bl_trans ?_ (by assumption) ?_; (focus (first | omega | (simp; done) | (simp; omega))))))), ?_⟩; (apply bk_eq; (focus (repeat (first | with_reducible exact bk_new rfl | with_reducible assumption | (with_reducible apply bk_drew) | (with_reducible apply bk_drewN) | (with_reducible apply bk_alloc) | (with_reducible apply bk_set) | (with_reducible apply bk_far; (focus (first | assumption | omega | (simp; done) | (simp; omega)))) | (with_reducible apply bk_below; (focus assumption); (focus (first | assumption | omega | (simp; done) | (simp; omega))))))); (first | rfl | (simp; done) | trace_state))) | (refine ⟨w1.heap.size, rfl, rfl, Nat.le_refl _, (by (repeat (first | with_reducible exact Below.refl _ _ | (with_reducible refine bl_drew ?_) | (with_reducible refine bl_drewN ?_) | (with_reducible refine bl_alloc ?_ ?_; (focus (first | omega | (simp; done) | (simp; omega)))) | (with_reducible refine bl_set ?_ ?_; (focus (first | omega | (simp; done) | (simp; omega)))) | (with_reducible refine bl_trans ?_ (by assumption) ?_; (focus (first | omega | (simp; done) | (simp; omega))))))), ?_⟩; (apply bk_eq; (focus (repeat (first | with_reducible exact bk_new rfl | with_reducible assumption | (with_reducible apply bk_drew) | (with_reducible apply bk_drewN) | (with_reducible apply bk_alloc) | (with_reducible apply bk_set) | (with_reducible apply bk_far; (focus (first | assumption | omega | (simp; done) | (simp; omega)))) | (with_reducible apply bk_below; (focus assumption); (focus (first | assumption | omega | (simp; done) | (simp; omega))))))); (first | rfl | (simp; done) | trace_state)))))
  case rest =>
  obtain ⟨B4, rfl, rfl, hB4, hbx, hBlk⟩ := hcut
  have h2 := HT1.out.below hbx
  have hX2 : Blk wc blk 107 #[.int .i64 T.past.length, .int .i64 0, .bool false, .int .i64 0] := h2.hand_cell HX.out
  have c8 : wc.cell? ⟨T.bt, 8, none⟩ = some (.int .i64 T.steps) := h2.c8
  have c0 : wc.cell? ⟨T.bt, 0, none⟩ = some (.pointer (some ⟨T.lk, 0, none⟩)) := h2.c0
  have e1 := hX2.cell 1
  have e2 := hX2.cell 2
  have e3 := hX2.cell 3
  simp only [List.getElem?_toArray, List.getElem?_cons_zero, List.getElem?_cons_succ] at e1 e2 e3
  have m0 : wc.frozen? ⟨T.bt, 8, none⟩ = false := h2.tab.free 8
  have mf : ∀ o, wc.frozen? ⟨blk, o, none⟩ = false := hX2.free
  have hne : blk ≠ T.bt := hX2.ne_ h2.tab (by decide)
  have hxl := hX2.lt
  have n5 : T.bt < wc.heap.size := h2.lt _ h2.s_bt
  have H2 := Lib.hid h2
  have HX2 := Lib.hid hX2
  have sb : S1 T.bt := h2.s_bt
  have hc4 := hC0.out
  have HCC : Hid (Chg S w wc) := Lib.hid (cg_below hbx hC0.out)
  have hz5 : w1.heap.size ≤ wc.heap.size := hbx.size
  clear h2 hbx hX2 c4 l4 hBlk hc4
  have h3 : Hid (TableAt (wc.setCell ⟨T.bt, 8, none⟩ (.int .i64 (T.steps + 1))) S1 R (T.begun i a blk pv).stepped) := Lib.hid (H2.out.set_steps (w' := wc.setCell ⟨T.bt, 8, none⟩ (.int .i64 (T.steps + 1))) (cg_set (.inl rfl) (Chg.refl _ _)) (T.steps + 1) (by apply bk_eq; exact bk_set H2.out.tab; rfl))
  have HLk : Hid (∀ W, Below (wc.setCell ⟨T.bt, 8, none⟩ (.int .i64 (T.steps + 1))).heap.size (wc.setCell ⟨T.bt, 8, none⟩ (.int .i64 (T.steps + 1))) W → Calls Try.prog 41 #[.pointer (some ⟨T.bt, 0, none⟩), .int .i64 i, .int .i64 3] W fun e w' => e = .returned (.agg #[.int .i64 3, .int .i64 (ofL a.key.data.toList T.nsh), .int .i64 0, .int .i64 0]) ∧ Below W.heap.size W w') :=
    Lib.hid (fun W hb => lock_in W S1 R _ (h3.out.below hb) i k asks a HI.out.1 HI.out.2.1 HI.out.2.2 3)
  have HDo : Hid (∀ W, Below (wc.setCell ⟨T.bt, 8, none⟩ (.int .i64 (T.steps + 1))).heap.size (wc.setCell ⟨T.bt, 8, none⟩ (.int .i64 (T.steps + 1))) W → Calls Try.prog 52 #[.pointer (some ⟨T.lk, 0, none⟩), .int .i64 i, .agg #[.int .i64 3, .int .i64 (ofL a.key.data.toList T.nsh), .int .i64 0, .int .i64 0]] W fun e w' => e = .returned (.tuple #[.int .i64 0, .int .i64 0]) ∧ Chg (fun b => b = T.lk ∨ b = T.ck) W w' ∧ MemAt w' T.lk T.ck T.nsh T.mcap (T.mst + 1) (T.own.set (shOf T a) i)) := by
    intro W hb
    rw [(shOf_eq H.out a).1]
    exact Do_free T.lk T.ck T.nsh T.mcap (shOf T a) T.mst i T.own W HO.out.1 HO.out.2 (by have := H.out.len_sh; omega) hst hst' (by obtain ⟨arr, hck, _⟩ := h3.out.mem.ckb; exact h3.out.mem.lkb.ne_ hck (by decide)) (h3.out.below hb).mem
  have n6 : T.bt ≠ T.lk := h3.out.tab.ne_ h3.out.mem.lkb (by decide)
  have n7 : T.bt ≠ T.ck := by obtain ⟨arr, hck, _⟩ := h3.out.mem.ckb; exact h3.out.tab.ne_ hck (by decide)
  have hc3 : Chg S w (wc.setCell ⟨T.bt, 8, none⟩ (.int .i64 (T.steps + 1))) := cg_set (.inl H.out.s_bt) HCC.out
  go_wp2_with fail
  go_region_held3 (fun w' => w'.cell? ⟨T.bt, 0, none⟩ = some (.pointer (some ⟨T.lk, 0, none⟩))) (((first | (simp [go_sem, *]; done) | ((repeat' apply And.intro) <;> (first | (simp [go_sem, *]; done) | ((repeat (first | with_reducible assumption | (with_reducible apply keepD) | (with_reducible apply keepDN) | (with_reducible apply keepDf) | (with_reducible apply keepDNf) | (with_reducible refine keepA ?_ ?_; (focus (first | assumption | omega | (simp; done) | (simp; omega)))) | (with_reducible refine keepAf ?_ ?_; (focus (first | assumption | omega | (simp; done) | (simp; omega)))) | (with_reducible refine keepS ?_ ?_; (focus (first | assumption | omega | (simp; done) | (simp; omega) | (simp [*]; done)))) | (with_reducible apply keepSf) | (with_reducible refine keep1 (by assumption) ?_ ?_; (focus (first | assumption | omega | (simp; done) | (simp; omega)))) | (with_reducible refine keep1f (by assumption) ?_ ?_; (focus (first | assumption | omega | (simp; done) | (simp; omega)))) | (with_reducible refine keep2 (by assumption) ?_ ?_ ?_; (focus (first | assumption | omega | (simp; done) | (simp; omega))); (focus (first | assumption | omega | (simp; done) | (simp; omega) | (simp [*]; done)))) | (with_reducible refine keep2f (by assumption) ?_ ?_ ?_; (focus (first | assumption | omega | (simp; done) | (simp; omega))); (focus (first | assumption | omega | (simp; done) | (simp; omega) | (simp [*]; done)))))); done) | ((repeat (first | with_reducible assumption | (with_reducible apply keepD) | (with_reducible apply keepDN) | (with_reducible apply keepDf) | (with_reducible apply keepDNf) | (with_reducible refine keepA ?_ ?_; (focus (first | assumption | omega | (simp; done) | (simp; omega)))) | (with_reducible refine keepAf ?_ ?_; (focus (first | assumption | omega | (simp; done) | (simp; omega)))) | (with_reducible refine keepS ?_ ?_; (focus (first | assumption | omega | (simp; done) | (simp; omega) | (simp [*]; done)))) | (with_reducible apply keepSf) | (with_reducible refine keep1 (by assumption) ?_ ?_; (focus (first | assumption | omega | (simp; done) | (simp; omega)))) | (with_reducible refine keep1f (by assumption) ?_ ?_; (focus (first | assumption | omega | (simp; done) | (simp; omega)))) | (with_reducible refine keep2 (by assumption) ?_ ?_ ?_; (focus (first | assumption | omega | (simp; done) | (simp; omega))); (focus (first | assumption | omega | (simp; done) | (simp; omega) | (simp [*]; done)))) | (with_reducible refine keep2f (by assumption) ?_ ?_ ?_; (focus (first | assumption | omega | (simp; done) | (simp; omega))); (focus (first | assumption | omega | (simp; done) | (simp; omega) | (simp [*]; done)))))); simp [go_sem, *]; done))))))
    ((first | (go_at_call 41; refine (HLk.out _ (by (repeat (first | with_reducible exact Below.refl _ _ | (with_reducible refine bl_drew ?_) | (with_reducible refine bl_drewN ?_) | (with_reducible refine bl_alloc ?_ ?_; (focus (first | omega | (simp; done) | (simp; omega)))) | (with_reducible refine bl_set ?_ ?_; (focus (first | omega | (simp; done) | (simp; omega)))) | (with_reducible refine bl_trans ?_ (by assumption) ?_; (focus (first | omega | (simp; done) | (simp; omega)))))))).mono ?_; rintro e w3 ⟨rfl, hb_w3⟩; obtain ⟨hc_w3, hf_w3⟩ := bcell hb_w3; have hz_w3 := hb_w3.size; try simp at hz_w3) | (go_at_call 52; refine (HDo.out _ (by (repeat (first | with_reducible exact Below.refl _ _ | (with_reducible refine bl_drew ?_) | (with_reducible refine bl_drewN ?_) | (with_reducible refine bl_alloc ?_ ?_; (focus (first | omega | (simp; done) | (simp; omega)))) | (with_reducible refine bl_set ?_ ?_; (focus (first | omega | (simp; done) | (simp; omega)))) | (with_reducible refine bl_trans ?_ (by assumption) ?_; (focus (first | omega | (simp; done) | (simp; omega)))))))).mono ?_; rintro e w4 ⟨rfl, hC4, hM4⟩)))
  have h4 := TableAt.set_mem (h3.out.below (w' := w3) (by (repeat (first | with_reducible exact Below.refl _ _ | (with_reducible refine bl_drew ?_) | (with_reducible refine bl_drewN ?_) | (with_reducible refine bl_alloc ?_ ?_; (focus (first | omega | (simp; done) | (simp; omega)))) | (with_reducible refine bl_set ?_ ?_; (focus (first | omega | (simp; done) | (simp; omega)))) | (with_reducible refine bl_trans ?_ (by assumption) ?_; (focus (first | omega | (simp; done) | (simp; omega)))))))) hC4 _ _ hM4
  have hcw : Chg S w w4 := Chg.then_ (cg_below (w := (wc.setCell ⟨T.bt, 8, none⟩ (.int .i64 (T.steps + 1)))) (w' := w3) (by (repeat (first | with_reducible exact Below.refl _ _ | (with_reducible refine bl_drew ?_) | (with_reducible refine bl_drewN ?_) | (with_reducible refine bl_alloc ?_ ?_; (focus (first | omega | (simp; done) | (simp; omega)))) | (with_reducible refine bl_set ?_ ?_; (focus (first | omega | (simp; done) | (simp; omega)))) | (with_reducible refine bl_trans ?_ (by assumption) ?_; (focus (first | omega | (simp; done) | (simp; omega))))))) hc3) hC4 (fun b _ e => by rcases e with rfl | rfl; exact H.out.s_lk; exact H.out.s_ck)
  have bx : Blk w4 blk 107 #[.int .i64 T.past.length, .int .i64 0, .bool false, .int .i64 0] := h4.hand_cell HX.out
  have d1 := bx.cell 1
  simp only [List.getElem?_toArray, List.getElem?_cons_zero, List.getElem?_cons_succ] at d1
  have d2 := bx.free 1
  have H4 := Lib.hid h4
  have hz6 : w3.heap.size ≤ w4.heap.size := hC4.size
  have sx : S1 blk := h4.s_hand _ (mget_some_mem HX.out)
  clear hC4 hM4 h4
  go_wp2_with fail
  refine bodyPost_ret (v := .tuple #[]) (by simp [results, Try.results33, go_sem, *]) rfl ?_
  have h5 := H4.out.set_hand HX.out (x' := ⟨blk, T.past.length, 1, false, 0⟩) rfl (w' := w4.setCell ⟨blk, 1, none⟩ (.int .i64 1)) (cg_set (.inl rfl) (Chg.refl _ _)) (by (apply bk_eq; (focus (repeat (first | with_reducible exact bk_new rfl | with_reducible assumption | (with_reducible apply bk_drew) | (with_reducible apply bk_drewN) | (with_reducible apply bk_alloc) | (with_reducible apply bk_set) | (with_reducible apply bk_far; (focus (first | assumption | omega | (simp; done) | (simp; omega)))) | (with_reducible apply bk_below; (focus assumption); (focus (first | assumption | omega | (simp; done) | (simp; omega))))))); (first | rfl | (simp; done) | trace_state)))
  have hs4 : (w4.setCell ⟨blk, 1, none⟩ (.int .i64 1)).heap.size = w4.heap.size := by simp
  have hlw := H.out.ltR
  have hsw := H.out.lt
  rw [HS1.out] at h5 sx
  refine ⟨blk, pv, rfl, h5.wider ?_ ?_ ?_, ?_⟩
  · rintro b (hb | ⟨q1, q2⟩)
    · exact .inl hb
    · exact .inr ⟨q1, by omega⟩
  · rintro b (hb | ⟨q1, q2⟩)
    · have := hsw b hb; omega
    · exact q2
  · rintro b hr (hb | ⟨q1, q2⟩)
    · exact H.out.dis b hr hb
    · have := hlw b hr; omega
  · refine cg_set ?_ hcw
    rcases sx with hb | ⟨q1, q2⟩
    · exact .inl hb
    · exact .inr q1
end Go.Proofs.Ytimkoepaeebleaa
