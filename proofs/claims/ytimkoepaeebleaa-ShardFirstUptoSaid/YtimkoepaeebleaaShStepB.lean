/- A worker's step where it puts a value, and where it tells. -/
import Derived.Test.YtimkoepaeebleaaShStep
namespace Go.Proofs.Ytimkoepaeebleaa
open Go.RowKit

def TS.putv (T : TS) (key : ByteArray) (v : Int) : TS := { T with values := mput T.values key v }
def TS.tell (T : TS) (key : ByteArray) : TS := { T with told := mput T.told key true }


set_option maxRecDepth 100000 in
set_option maxHeartbeats 4000000 in
theorem Step_put (w : World) (S R : Nat → Prop) (T : TS) (i k : Nat) (asks : List Ask) (a : Ask) (x : Hand) (h : Ready w S R T i k asks a x) (hn : x.next = 2) (T' : TS)
    (hT' : T' = (T.stepped.putv a.key a.value).hand i { x with next := 3 }) :
    Calls Try.prog 33 #[.pointer (some ⟨T.bt, 0, none⟩), .int .i64 i] w (Stepped w S R T') := by
  have H := Lib.hid h
  have HT := Lib.hid hT'
  have hkl : k < asks.length := (List.getElem?_eq_some_iff.1 h.ha).1
  have hD := Done_in w S R T h.tab i k asks h.hi h.hk
  rw [show decide (k = asks.length) = false by simp; omega] at hD
  have HD := Lib.hid hD
  have HA := Lib.hid (fun W (hb : Below w.heap.size w W) => ask_in W S R T (h.tab.below hb) i k asks a h.hi h.hk h.ha)
  have HL := Lib.hid (fun W (hb : Below w.heap.size w W) => (h.tab.below hb).hand_at h.hx)
  have n1 := h.tab.lt _ h.tab.s_bt
  have st1 := h.steps
  clear h hD hT'
  go_enter Try.func33, Try.ntmps33
  go_wp2_with fail
  refine HD.out.mono ?_
  rintro e w1 ⟨rfl, n, rfl⟩
  go_wp2_with fail
  refine (H.out.waits n).mono ?_
  rintro e w1 ⟨rfl, hb1⟩
  have hbl : Below w.heap.size w w1 := bl_trans (B' := (w.drewN n).heap.size) (Nat.le_refl _) hb1 (bl_drewN (Below.refl _ _))
  clear hb1
  have hz1 := hbl.size
  have h1 := H.out.tab.below hbl
  have c4 := h1.c4
  have l4 := HL.out w1 hbl
  have HT1 := Lib.hid h1
  clear h1
  go_upto_region 3 with fail
  go_cut [4, 5] (fun s4 s5 wx => ∃ B4, s4 = .pointer (some ⟨B4, 0, none⟩) ∧ s5 = .pointer (some ⟨x.blk, 0, none⟩) ∧ w1.heap.size ≤ B4 ∧ Below w1.heap.size w1 wx ∧ Blk wx B4 70 #[.int .i64 a.kind, .string a.key, .int .i64 a.value])
  case first =>
    have n2 : T.bt < w1.heap.size := by omega
    go_region_held3 (fun w' => w'.cell? ⟨T.bt, 4, none⟩ = some (.map (some T.hb)) ∧ (Instr.lookup 63 (.map (some T.hb)) (.int .i64 i) false).run Try.prog w' = .ok (.pointer (some ⟨x.blk, 0, none⟩)) w') (((repeat' with_reducible apply And.intro) <;> (first | ((with_reducible refine HL.out _ ?_); (repeat (first | with_reducible exact Below.refl _ _ | (with_reducible refine bl_drew ?_) | (with_reducible refine bl_drewN ?_) | (with_reducible refine bl_alloc ?_ ?_; (focus (first | omega | (simp; done) | (simp; omega)))) | (with_reducible refine bl_set ?_ ?_; (focus (first | omega | (simp; done) | (simp; omega)))) | (with_reducible refine bl_trans ?_ (by assumption) ?_; (focus (first | omega | (simp; done) | (simp; omega)))))); done) | ((first | (simp [go_sem, *]; done) | ((repeat' apply And.intro) <;> (first | (simp [go_sem, *]; done) | ((repeat (first | with_reducible assumption | (with_reducible apply keepD) | (with_reducible apply keepDN) | (with_reducible apply keepDf) | (with_reducible apply keepDNf) | (with_reducible refine keepA ?_ ?_; (focus (first | assumption | omega | (simp; done) | (simp; omega)))) | (with_reducible refine keepAf ?_ ?_; (focus (first | assumption | omega | (simp; done) | (simp; omega)))) | (with_reducible refine keepS ?_ ?_; (focus (first | assumption | omega | (simp; done) | (simp; omega) | (simp [*]; done)))) | (with_reducible apply keepSf) | (with_reducible refine keep1 (by assumption) ?_ ?_; (focus (first | assumption | omega | (simp; done) | (simp; omega)))) | (with_reducible refine keep1f (by assumption) ?_ ?_; (focus (first | assumption | omega | (simp; done) | (simp; omega)))) | (with_reducible refine keep2 (by assumption) ?_ ?_ ?_; (focus (first | assumption | omega | (simp; done) | (simp; omega))); (focus (first | assumption | omega | (simp; done) | (simp; omega) | (simp [*]; done)))) | (with_reducible refine keep2f (by assumption) ?_ ?_ ?_; (focus (first | assumption | omega | (simp; done) | (simp; omega))); (focus (first | assumption | omega | (simp; done) | (simp; omega) | (simp [*]; done)))))); done) | ((repeat (first | with_reducible assumption | (with_reducible apply keepD) | (with_reducible apply keepDN) | (with_reducible apply keepDf) | (with_reducible apply keepDNf) | (with_reducible refine keepA ?_ ?_; (focus (first | assumption | omega | (simp; done) | (simp; omega)))) | (with_reducible refine keepAf ?_ ?_; (focus (first | assumption | omega | (simp; done) | (simp; omega)))) | (with_reducible refine keepS ?_ ?_; (focus (first | assumption | omega | (simp; done) | (simp; omega) | (simp [*]; done)))) | (with_reducible apply keepSf) | (with_reducible refine keep1 (by assumption) ?_ ?_; (focus (first | assumption | omega | (simp; done) | (simp; omega)))) | (with_reducible refine keep1f (by assumption) ?_ ?_; (focus (first | assumption | omega | (simp; done) | (simp; omega)))) | (with_reducible refine keep2 (by assumption) ?_ ?_ ?_; (focus (first | assumption | omega | (simp; done) | (simp; omega))); (focus (first | assumption | omega | (simp; done) | (simp; omega) | (simp [*]; done)))) | (with_reducible refine keep2f (by assumption) ?_ ?_ ?_; (focus (first | assumption | omega | (simp; done) | (simp; omega))); (focus (first | assumption | omega | (simp; done) | (simp; omega) | (simp [*]; done)))))); simp [go_sem, *]; done))))))))
      ((first | (go_at_call 42; refine (HA.out _ (by (repeat (first | with_reducible exact Below.refl _ _ | (with_reducible refine bl_drew ?_) | (with_reducible refine bl_drewN ?_) | (with_reducible refine bl_alloc ?_ ?_; (focus (first | omega | (simp; done) | (simp; omega)))) | (with_reducible refine bl_set ?_ ?_; (focus (first | omega | (simp; done) | (simp; omega)))) | (with_reducible refine bl_trans ?_ (by assumption) ?_; (focus (first | omega | (simp; done) | (simp; omega)))))))).mono ?_; rintro e w2 ⟨rfl, hb_w2⟩; obtain ⟨hc_w2, hf_w2⟩ := bcell hb_w2; have hz_w2 := hb_w2.size; try simp at hz_w2)))
    all_goals (go_wp2_with fail; go_meet; (first | (refine ⟨w2.heap.size, rfl, rfl, by omega, (by (repeat (first | with_reducible exact Below.refl _ _ | (with_reducible refine bl_drew ?_) | (with_reducible refine bl_drewN ?_) | (with_reducible refine bl_alloc ?_ ?_; (focus (first | omega | (simp; done) | (simp; omega)))) | (with_reducible refine bl_set ?_ ?_; (focus (first | omega | (simp; done) | (simp; omega)))) | (with_reducible refine bl_trans ?_ (by assumption) ?_; (focus (first | omega | (simp; done) | (simp; omega))))))), ?_⟩; (apply bk_eq; (focus (repeat (first | with_reducible exact bk_new rfl | with_reducible assumption | (with_reducible apply bk_drew) | (with_reducible apply bk_drewN) | (with_reducible apply bk_alloc) | (with_reducible apply bk_set) | (with_reducible apply bk_far; (focus (first | assumption | omega | (simp; done) | (simp; omega)))) | (with_reducible apply bk_below; (focus assumption); (focus (first | assumption | omega | (simp; done) | (simp; omega))))))); (first | rfl | (simp; done) | trace_state))) | (refine ⟨w1.heap.size, rfl, rfl, Nat.le_refl _, (by (repeat (first | with_reducible exact Below.refl _ _ | (with_reducible refine bl_drew ?_) | (with_reducible refine bl_drewN ?_) | (with_reducible refine bl_alloc ?_ ?_; (focus (first | omega | (simp; done) | (simp; omega)))) | (with_reducible refine bl_set ?_ ?_; (focus (first | omega | (simp; done) | (simp; omega)))) | (with_reducible refine bl_trans ?_ (by assumption) ?_; (focus (first | omega | (simp; done) | (simp; omega))))))), ?_⟩; (apply bk_eq; (focus (repeat (first | with_reducible exact bk_new rfl | with_reducible assumption | (with_reducible apply bk_drew) | (with_reducible apply bk_drewN) | (with_reducible apply bk_alloc) | (with_reducible apply bk_set) | (with_reducible apply bk_far; (focus (first | assumption | omega | (simp; done) | (simp; omega)))) | (with_reducible apply bk_below; (focus assumption); (focus (first | assumption | omega | (simp; done) | (simp; omega))))))); (first | rfl | (simp; done) | trace_state)))))
  case rest =>
  obtain ⟨B4, rfl, rfl, hB4, hbx, hBlk⟩ := hcut
  have hbw := bl_trans hz1 hbx hbl
  have h2 := HT1.out.below hbx
  have HX2 := Lib.hid (h2.hand_cell H.out.hx)
  have c8 := h2.c8
  have e1 := HX2.out.cell 1
  have e2 := HX2.out.cell 2
  have e3 := HX2.out.cell 3
  have k0 := hBlk.cell 0
  have k1 := hBlk.cell 1
  have k2 := hBlk.cell 2
  simp only [List.getElem?_toArray, List.getElem?_cons_zero, List.getElem?_cons_succ] at e1 e2 e3 k0 k1 k2
  have m0 : wc.frozen? ⟨T.bt, 8, none⟩ = false := h2.tab.free 8
  have mf : ∀ o, wc.frozen? ⟨x.blk, o, none⟩ = false := HX2.out.free
  have hne : x.blk ≠ T.bt := HX2.out.ne_ h2.tab (by decide)
  have hne4 : B4 ≠ T.bt := by omega
  have hxl := HX2.out.lt
  have hnx : B4 ≠ x.blk := by have := (h2.hand_cell H.out.hx).lt; have := (HT1.out.hand_cell H.out.hx).lt; omega
  have HBk := Lib.hid hBlk
  have H2 := Lib.hid h2
  have HC := Lib.hid hbw
  clear h2 hbx hbl hbw c4 l4 hBlk
  rw [hn] at e1
  have cm := H2.out.c5
  have sb := H2.out.s_bt
  have sx := H2.out.s_hand _ (mget_some_mem H.out.hx)
  have h3 := Lib.hid (H2.out.set_steps (w' := (wc.setCell ⟨T.bt, 8, none⟩ (.int .i64 (T.steps + 1))).drew) (by (repeat (first | with_reducible assumption | with_reducible exact Chg.refl _ _ | (with_reducible refine cg_drew ?_) | (with_reducible refine cg_drewN ?_) | (with_reducible refine cg_alloc ?_) | (with_reducible refine cg_set ?_ ?_; (focus (first | exact Or.inl (by assumption) | (simp; done) | (simp; omega)))) | (with_reducible refine cg_below (by assumption) ?_)))) (T.steps + 1) (by apply bk_eq; exact bk_drew (bk_set H2.out.tab); rfl))
  go_wp2_with fail
  refine wp_region_rows (S := (fun w' => w'.cell? ⟨T.bt, 5, none⟩ = some (.map (some T.vb)) ∧ w'.cell? ⟨B4, 1, none⟩ = some (.string a.key) ∧ w'.cell? ⟨B4, 2, none⟩ = some (.int .i64 a.value))) [1,1,1,2,1,2,1,2,3] [0,1,2,3,4,5,6,7,8] (by kernel_rfl) (by kernel_rfl) (by kernel_rfl) (fun _ _ d _ _ h => by cases d <;> exact h) ?_ (fun hHeld => ?_)
  · ((first | (simp [go_sem, *]; done) | ((repeat' apply And.intro) <;> (first | (simp [go_sem, *]; done) | ((repeat (first | with_reducible assumption | (with_reducible apply keepD) | (with_reducible apply keepDN) | (with_reducible apply keepDf) | (with_reducible apply keepDNf) | (with_reducible refine keepA ?_ ?_; (focus (first | assumption | omega | (simp; done) | (simp; omega)))) | (with_reducible refine keepAf ?_ ?_; (focus (first | assumption | omega | (simp; done) | (simp; omega)))) | (with_reducible refine keepS ?_ ?_; (focus (first | assumption | omega | (simp; done) | (simp; omega) | (simp [*]; done)))) | (with_reducible apply keepSf) | (with_reducible refine keep1 (by assumption) ?_ ?_; (focus (first | assumption | omega | (simp; done) | (simp; omega)))) | (with_reducible refine keep1f (by assumption) ?_ ?_; (focus (first | assumption | omega | (simp; done) | (simp; omega)))) | (with_reducible refine keep2 (by assumption) ?_ ?_ ?_; (focus (first | assumption | omega | (simp; done) | (simp; omega))); (focus (first | assumption | omega | (simp; done) | (simp; omega) | (simp [*]; done)))) | (with_reducible refine keep2f (by assumption) ?_ ?_ ?_; (focus (first | assumption | omega | (simp; done) | (simp; omega))); (focus (first | assumption | omega | (simp; done) | (simp; omega) | (simp [*]; done)))))); done) | ((repeat (first | with_reducible assumption | (with_reducible apply keepD) | (with_reducible apply keepDN) | (with_reducible apply keepDf) | (with_reducible apply keepDNf) | (with_reducible refine keepA ?_ ?_; (focus (first | assumption | omega | (simp; done) | (simp; omega)))) | (with_reducible refine keepAf ?_ ?_; (focus (first | assumption | omega | (simp; done) | (simp; omega)))) | (with_reducible refine keepS ?_ ?_; (focus (first | assumption | omega | (simp; done) | (simp; omega) | (simp [*]; done)))) | (with_reducible apply keepSf) | (with_reducible refine keep1 (by assumption) ?_ ?_; (focus (first | assumption | omega | (simp; done) | (simp; omega)))) | (with_reducible refine keep1f (by assumption) ?_ ?_; (focus (first | assumption | omega | (simp; done) | (simp; omega)))) | (with_reducible refine keep2 (by assumption) ?_ ?_ ?_; (focus (first | assumption | omega | (simp; done) | (simp; omega))); (focus (first | assumption | omega | (simp; done) | (simp; omega) | (simp [*]; done)))) | (with_reducible refine keep2f (by assumption) ?_ ?_ ?_; (focus (first | assumption | omega | (simp; done) | (simp; omega))); (focus (first | assumption | omega | (simp; done) | (simp; omega) | (simp [*]; done)))))); simp [go_sem, *]; done)))))
  simp only [rowsOf, List.map_cons, List.map_nil, nth, nthK]
  repeat (first | (refine' row_pure rfl (fun W => ?_) ?_; rotate_left; (focus (go_simp; first | done | with_reducible rfl)); (try simp only [Act.put, List.setIfInBounds_toArray, List.set_cons_zero, List.set_cons_succ])) | (refine' row_load rfl hHeld (fun W hW => ?_) ?_; rotate_left; (focus ((try dsimp only at hW); go_simp; first | done | with_reducible rfl)); (try simp only [Act.put, List.setIfInBounds_toArray, List.set_cons_zero, List.set_cons_succ])) | (first | refine row_skip1 rfl ?_ | refine row_skip2 rfl hHeld ?_ | refine row_skip3 rfl ?_ | refine row_skip0 rfl hHeld ?_; (try simp only [Act.put, List.setIfInBounds_toArray, List.set_cons_zero, List.set_cons_succ])))
  refine row_last rfl (fun K hK => ?_)
  refine wp_mapUpdate (.tmp 107) (.tmp 109) (.tmp 111) rfl keyK Try.underlying57 rfl h3.out.values a.key a.value rfl rfl ?_
  intro w2 hM2 hC2 hs2
  refine hK _ _ ?_
  clear hK K hs2
  refine row_done ?_
  have h4 := Lib.hid (h3.out.set_values hC2 _ hM2)
  have bx := h4.out.hand_cell H.out.hx
  have d1 := bx.cell 1
  simp only [List.getElem?_toArray, List.getElem?_cons_zero, List.getElem?_cons_succ] at d1
  have d2 := bx.free 1
  have hcw : Chg S w w2 := Chg.then_ (cg_drew (cg_set (.inl sb) (cg_below HC.out (Chg.refl _ _)))) hC2 (fun b _ e => e ▸ H2.out.s_vb)
  clear hM2 hC2
  go_simp
  go_wp2_with fail
  refine bodyPost_ret (v := .tuple #[]) (by simp [results, Try.results33, go_sem, *]) rfl ?_
  refine ⟨rfl, ?_, ?_⟩
  · rw [HT.out]
    exact h4.out.set_hand H.out.hx (x' := { x with next := 3 }) rfl (by (repeat (first | with_reducible assumption | with_reducible exact Chg.refl _ _ | (with_reducible refine cg_drew ?_) | (with_reducible refine cg_drewN ?_) | (with_reducible refine cg_alloc ?_) | (with_reducible refine cg_set ?_ ?_; (focus (first | exact Or.inl (by assumption) | (simp; done) | (simp; omega)))) | (with_reducible refine cg_below (by assumption) ?_)))) (by (apply bk_eq; (focus (repeat (first | with_reducible exact bk_new rfl | with_reducible assumption | (with_reducible apply bk_drew) | (with_reducible apply bk_drewN) | (with_reducible apply bk_alloc) | (with_reducible apply bk_set) | (with_reducible apply bk_far; (focus (first | assumption | omega | (simp; done) | (simp; omega)))) | (with_reducible apply bk_below; (focus assumption); (focus (first | assumption | omega | (simp; done) | (simp; omega))))))); (first | rfl | (simp; done) | trace_state)))
  · (repeat (first | with_reducible assumption | with_reducible exact Chg.refl _ _ | (with_reducible refine cg_drew ?_) | (with_reducible refine cg_drewN ?_) | (with_reducible refine cg_alloc ?_) | (with_reducible refine cg_set ?_ ?_; (focus (first | exact Or.inl (by assumption) | (simp; done) | (simp; omega)))) | (with_reducible refine cg_below (by assumption) ?_)))

set_option maxRecDepth 100000 in
set_option maxHeartbeats 4000000 in
theorem Step_tell (w : World) (S R : Nat → Prop) (T : TS) (i k : Nat) (asks : List Ask) (a : Ask) (x : Hand) (h : Ready w S R T i k asks a x) (hn : x.next = 3) (T' : TS)
    (hT' : T' = (T.stepped.tell a.key).hand i { x with next := 4 }) :
    Calls Try.prog 33 #[.pointer (some ⟨T.bt, 0, none⟩), .int .i64 i] w (Stepped w S R T') := by
  have H := Lib.hid h
  have HT := Lib.hid hT'
  have hkl : k < asks.length := (List.getElem?_eq_some_iff.1 h.ha).1
  have hD := Done_in w S R T h.tab i k asks h.hi h.hk
  rw [show decide (k = asks.length) = false by simp; omega] at hD
  have HD := Lib.hid hD
  have HA := Lib.hid (fun W (hb : Below w.heap.size w W) => ask_in W S R T (h.tab.below hb) i k asks a h.hi h.hk h.ha)
  have HL := Lib.hid (fun W (hb : Below w.heap.size w W) => (h.tab.below hb).hand_at h.hx)
  have n1 := h.tab.lt _ h.tab.s_bt
  have st1 := h.steps
  clear h hD hT'
  go_enter Try.func33, Try.ntmps33
  go_wp2_with fail
  refine HD.out.mono ?_
  rintro e w1 ⟨rfl, n, rfl⟩
  go_wp2_with fail
  refine (H.out.waits n).mono ?_
  rintro e w1 ⟨rfl, hb1⟩
  have hbl : Below w.heap.size w w1 := bl_trans (B' := (w.drewN n).heap.size) (Nat.le_refl _) hb1 (bl_drewN (Below.refl _ _))
  clear hb1
  have hz1 := hbl.size
  have h1 := H.out.tab.below hbl
  have c4 := h1.c4
  have l4 := HL.out w1 hbl
  have HT1 := Lib.hid h1
  clear h1
  go_upto_region 3 with fail
  go_cut [4, 5] (fun s4 s5 wx => ∃ B4, s4 = .pointer (some ⟨B4, 0, none⟩) ∧ s5 = .pointer (some ⟨x.blk, 0, none⟩) ∧ w1.heap.size ≤ B4 ∧ Below w1.heap.size w1 wx ∧ Blk wx B4 70 #[.int .i64 a.kind, .string a.key, .int .i64 a.value])
  case first =>
    have n2 : T.bt < w1.heap.size := by omega
    go_region_held3 (fun w' => w'.cell? ⟨T.bt, 4, none⟩ = some (.map (some T.hb)) ∧ (Instr.lookup 63 (.map (some T.hb)) (.int .i64 i) false).run Try.prog w' = .ok (.pointer (some ⟨x.blk, 0, none⟩)) w') (((repeat' with_reducible apply And.intro) <;> (first | ((with_reducible refine HL.out _ ?_); (repeat (first | with_reducible exact Below.refl _ _ | (with_reducible refine bl_drew ?_) | (with_reducible refine bl_drewN ?_) | (with_reducible refine bl_alloc ?_ ?_; (focus (first | omega | (simp; done) | (simp; omega)))) | (with_reducible refine bl_set ?_ ?_; (focus (first | omega | (simp; done) | (simp; omega)))) | (with_reducible refine bl_trans ?_ (by assumption) ?_; (focus (first | omega | (simp; done) | (simp; omega)))))); done) | ((first | (simp [go_sem, *]; done) | ((repeat' apply And.intro) <;> (first | (simp [go_sem, *]; done) | ((repeat (first | with_reducible assumption | (with_reducible apply keepD) | (with_reducible apply keepDN) | (with_reducible apply keepDf) | (with_reducible apply keepDNf) | (with_reducible refine keepA ?_ ?_; (focus (first | assumption | omega | (simp; done) | (simp; omega)))) | (with_reducible refine keepAf ?_ ?_; (focus (first | assumption | omega | (simp; done) | (simp; omega)))) | (with_reducible refine keepS ?_ ?_; (focus (first | assumption | omega | (simp; done) | (simp; omega) | (simp [*]; done)))) | (with_reducible apply keepSf) | (with_reducible refine keep1 (by assumption) ?_ ?_; (focus (first | assumption | omega | (simp; done) | (simp; omega)))) | (with_reducible refine keep1f (by assumption) ?_ ?_; (focus (first | assumption | omega | (simp; done) | (simp; omega)))) | (with_reducible refine keep2 (by assumption) ?_ ?_ ?_; (focus (first | assumption | omega | (simp; done) | (simp; omega))); (focus (first | assumption | omega | (simp; done) | (simp; omega) | (simp [*]; done)))) | (with_reducible refine keep2f (by assumption) ?_ ?_ ?_; (focus (first | assumption | omega | (simp; done) | (simp; omega))); (focus (first | assumption | omega | (simp; done) | (simp; omega) | (simp [*]; done)))))); done) | ((repeat (first | with_reducible assumption | (with_reducible apply keepD) | (with_reducible apply keepDN) | (with_reducible apply keepDf) | (with_reducible apply keepDNf) | (with_reducible refine keepA ?_ ?_; (focus (first | assumption | omega | (simp; done) | (simp; omega)))) | (with_reducible refine keepAf ?_ ?_; (focus (first | assumption | omega | (simp; done) | (simp; omega)))) | (with_reducible refine keepS ?_ ?_; (focus (first | assumption | omega | (simp; done) | (simp; omega) | (simp [*]; done)))) | (with_reducible apply keepSf) | (with_reducible refine keep1 (by assumption) ?_ ?_; (focus (first | assumption | omega | (simp; done) | (simp; omega)))) | (with_reducible refine keep1f (by assumption) ?_ ?_; (focus (first | assumption | omega | (simp; done) | (simp; omega)))) | (with_reducible refine keep2 (by assumption) ?_ ?_ ?_; (focus (first | assumption | omega | (simp; done) | (simp; omega))); (focus (first | assumption | omega | (simp; done) | (simp; omega) | (simp [*]; done)))) | (with_reducible refine keep2f (by assumption) ?_ ?_ ?_; (focus (first | assumption | omega | (simp; done) | (simp; omega))); (focus (first | assumption | omega | (simp; done) | (simp; omega) | (simp [*]; done)))))); simp [go_sem, *]; done))))))))
      ((first | (go_at_call 42; refine (HA.out _ (by (repeat (first | with_reducible exact Below.refl _ _ | (with_reducible refine bl_drew ?_) | (with_reducible refine bl_drewN ?_) | (with_reducible refine bl_alloc ?_ ?_; (focus (first | omega | (simp; done) | (simp; omega)))) | (with_reducible refine bl_set ?_ ?_; (focus (first | omega | (simp; done) | (simp; omega)))) | (with_reducible refine bl_trans ?_ (by assumption) ?_; (focus (first | omega | (simp; done) | (simp; omega)))))))).mono ?_; rintro e w2 ⟨rfl, hb_w2⟩; obtain ⟨hc_w2, hf_w2⟩ := bcell hb_w2; have hz_w2 := hb_w2.size; try simp at hz_w2)))
    all_goals (go_wp2_with fail; go_meet; (first | (refine ⟨w2.heap.size, rfl, rfl, by omega, (by (repeat (first | with_reducible exact Below.refl _ _ | (with_reducible refine bl_drew ?_) | (with_reducible refine bl_drewN ?_) | (with_reducible refine bl_alloc ?_ ?_; (focus (first | omega | (simp; done) | (simp; omega)))) | (with_reducible refine bl_set ?_ ?_; (focus (first | omega | (simp; done) | (simp; omega)))) | (with_reducible refine bl_trans ?_ (by assumption) ?_; (focus (first | omega | (simp; done) | (simp; omega))))))), ?_⟩; (apply bk_eq; (focus (repeat (first | with_reducible exact bk_new rfl | with_reducible assumption | (with_reducible apply bk_drew) | (with_reducible apply bk_drewN) | (with_reducible apply bk_alloc) | (with_reducible apply bk_set) | (with_reducible apply bk_far; (focus (first | assumption | omega | (simp; done) | (simp; omega)))) | (with_reducible apply bk_below; (focus assumption); (focus (first | assumption | omega | (simp; done) | (simp; omega))))))); (first | rfl | (simp; done) | trace_state))) | (refine ⟨w1.heap.size, rfl, rfl, Nat.le_refl _, (by (repeat (first | with_reducible exact Below.refl _ _ | (with_reducible refine bl_drew ?_) | (with_reducible refine bl_drewN ?_) | (with_reducible refine bl_alloc ?_ ?_; (focus (first | omega | (simp; done) | (simp; omega)))) | (with_reducible refine bl_set ?_ ?_; (focus (first | omega | (simp; done) | (simp; omega)))) | (with_reducible refine bl_trans ?_ (by assumption) ?_; (focus (first | omega | (simp; done) | (simp; omega))))))), ?_⟩; (apply bk_eq; (focus (repeat (first | with_reducible exact bk_new rfl | with_reducible assumption | (with_reducible apply bk_drew) | (with_reducible apply bk_drewN) | (with_reducible apply bk_alloc) | (with_reducible apply bk_set) | (with_reducible apply bk_far; (focus (first | assumption | omega | (simp; done) | (simp; omega)))) | (with_reducible apply bk_below; (focus assumption); (focus (first | assumption | omega | (simp; done) | (simp; omega))))))); (first | rfl | (simp; done) | trace_state)))))
  case rest =>
  obtain ⟨B4, rfl, rfl, hB4, hbx, hBlk⟩ := hcut
  have hbw := bl_trans hz1 hbx hbl
  have h2 := HT1.out.below hbx
  have HX2 := Lib.hid (h2.hand_cell H.out.hx)
  have c8 := h2.c8
  have e1 := HX2.out.cell 1
  have e2 := HX2.out.cell 2
  have e3 := HX2.out.cell 3
  have k0 := hBlk.cell 0
  have k1 := hBlk.cell 1
  have k2 := hBlk.cell 2
  simp only [List.getElem?_toArray, List.getElem?_cons_zero, List.getElem?_cons_succ] at e1 e2 e3 k0 k1 k2
  have m0 : wc.frozen? ⟨T.bt, 8, none⟩ = false := h2.tab.free 8
  have mf : ∀ o, wc.frozen? ⟨x.blk, o, none⟩ = false := HX2.out.free
  have hne : x.blk ≠ T.bt := HX2.out.ne_ h2.tab (by decide)
  have hne4 : B4 ≠ T.bt := by omega
  have hxl := HX2.out.lt
  have hnx : B4 ≠ x.blk := by have := (h2.hand_cell H.out.hx).lt; have := (HT1.out.hand_cell H.out.hx).lt; omega
  have HBk := Lib.hid hBlk
  have H2 := Lib.hid h2
  have HC := Lib.hid hbw
  clear h2 hbx hbl hbw c4 l4 hBlk
  rw [hn] at e1
  have cm := H2.out.c6
  have sb := H2.out.s_bt
  have sx := H2.out.s_hand _ (mget_some_mem H.out.hx)
  have h3 := Lib.hid (H2.out.set_steps (w' := (wc.setCell ⟨T.bt, 8, none⟩ (.int .i64 (T.steps + 1))).drew) (by (repeat (first | with_reducible assumption | with_reducible exact Chg.refl _ _ | (with_reducible refine cg_drew ?_) | (with_reducible refine cg_drewN ?_) | (with_reducible refine cg_alloc ?_) | (with_reducible refine cg_set ?_ ?_; (focus (first | exact Or.inl (by assumption) | (simp; done) | (simp; omega)))) | (with_reducible refine cg_below (by assumption) ?_)))) (T.steps + 1) (by apply bk_eq; exact bk_drew (bk_set H2.out.tab); rfl))
  go_wp2_with fail
  refine wp_region_rows (S := (fun w' => w'.cell? ⟨T.bt, 6, none⟩ = some (.map (some T.tb)) ∧ w'.cell? ⟨B4, 1, none⟩ = some (.string a.key) ∧ w'.cell? ⟨B4, 2, none⟩ = some (.int .i64 a.value))) [1,1,1,2,1,2,3] [0,1,2,3,4,5,6] (by kernel_rfl) (by kernel_rfl) (by kernel_rfl) (fun _ _ d _ _ h => by cases d <;> exact h) ?_ (fun hHeld => ?_)
  · ((first | (simp [go_sem, *]; done) | ((repeat' apply And.intro) <;> (first | (simp [go_sem, *]; done) | ((repeat (first | with_reducible assumption | (with_reducible apply keepD) | (with_reducible apply keepDN) | (with_reducible apply keepDf) | (with_reducible apply keepDNf) | (with_reducible refine keepA ?_ ?_; (focus (first | assumption | omega | (simp; done) | (simp; omega)))) | (with_reducible refine keepAf ?_ ?_; (focus (first | assumption | omega | (simp; done) | (simp; omega)))) | (with_reducible refine keepS ?_ ?_; (focus (first | assumption | omega | (simp; done) | (simp; omega) | (simp [*]; done)))) | (with_reducible apply keepSf) | (with_reducible refine keep1 (by assumption) ?_ ?_; (focus (first | assumption | omega | (simp; done) | (simp; omega)))) | (with_reducible refine keep1f (by assumption) ?_ ?_; (focus (first | assumption | omega | (simp; done) | (simp; omega)))) | (with_reducible refine keep2 (by assumption) ?_ ?_ ?_; (focus (first | assumption | omega | (simp; done) | (simp; omega))); (focus (first | assumption | omega | (simp; done) | (simp; omega) | (simp [*]; done)))) | (with_reducible refine keep2f (by assumption) ?_ ?_ ?_; (focus (first | assumption | omega | (simp; done) | (simp; omega))); (focus (first | assumption | omega | (simp; done) | (simp; omega) | (simp [*]; done)))))); done) | ((repeat (first | with_reducible assumption | (with_reducible apply keepD) | (with_reducible apply keepDN) | (with_reducible apply keepDf) | (with_reducible apply keepDNf) | (with_reducible refine keepA ?_ ?_; (focus (first | assumption | omega | (simp; done) | (simp; omega)))) | (with_reducible refine keepAf ?_ ?_; (focus (first | assumption | omega | (simp; done) | (simp; omega)))) | (with_reducible refine keepS ?_ ?_; (focus (first | assumption | omega | (simp; done) | (simp; omega) | (simp [*]; done)))) | (with_reducible apply keepSf) | (with_reducible refine keep1 (by assumption) ?_ ?_; (focus (first | assumption | omega | (simp; done) | (simp; omega)))) | (with_reducible refine keep1f (by assumption) ?_ ?_; (focus (first | assumption | omega | (simp; done) | (simp; omega)))) | (with_reducible refine keep2 (by assumption) ?_ ?_ ?_; (focus (first | assumption | omega | (simp; done) | (simp; omega))); (focus (first | assumption | omega | (simp; done) | (simp; omega) | (simp [*]; done)))) | (with_reducible refine keep2f (by assumption) ?_ ?_ ?_; (focus (first | assumption | omega | (simp; done) | (simp; omega))); (focus (first | assumption | omega | (simp; done) | (simp; omega) | (simp [*]; done)))))); simp [go_sem, *]; done)))))
  simp only [rowsOf, List.map_cons, List.map_nil, nth, nthK]
  repeat (first | (refine' row_pure rfl (fun W => ?_) ?_; rotate_left; (focus (go_simp; first | done | with_reducible rfl)); (try simp only [Act.put, List.setIfInBounds_toArray, List.set_cons_zero, List.set_cons_succ])) | (refine' row_load rfl hHeld (fun W hW => ?_) ?_; rotate_left; (focus ((try dsimp only at hW); go_simp; first | done | with_reducible rfl)); (try simp only [Act.put, List.setIfInBounds_toArray, List.set_cons_zero, List.set_cons_succ])) | (first | refine row_skip1 rfl ?_ | refine row_skip2 rfl hHeld ?_ | refine row_skip3 rfl ?_ | refine row_skip0 rfl hHeld ?_; (try simp only [Act.put, List.setIfInBounds_toArray, List.set_cons_zero, List.set_cons_succ])))
  refine row_last rfl (fun K hK => ?_)
  refine wp_mapUpdate (.tmp 120) (.tmp 122) (.const (.bool true)) rfl keyK Try.underlying64 rfl h3.out.told a.key true rfl rfl ?_
  intro w2 hM2 hC2 hs2
  refine hK _ _ ?_
  clear hK K hs2
  refine row_done ?_
  have h4 := Lib.hid (h3.out.set_told hC2 _ hM2)
  have bx := h4.out.hand_cell H.out.hx
  have d1 := bx.cell 1
  simp only [List.getElem?_toArray, List.getElem?_cons_zero, List.getElem?_cons_succ] at d1
  have d2 := bx.free 1
  have hcw : Chg S w w2 := Chg.then_ (cg_drew (cg_set (.inl sb) (cg_below HC.out (Chg.refl _ _)))) hC2 (fun b _ e => e ▸ H2.out.s_tb)
  clear hM2 hC2
  go_simp
  go_wp2_with fail
  refine bodyPost_ret (v := .tuple #[]) (by simp [results, Try.results33, go_sem, *]) rfl ?_
  refine ⟨rfl, ?_, ?_⟩
  · rw [HT.out]
    exact h4.out.set_hand H.out.hx (x' := { x with next := 4 }) rfl (by (repeat (first | with_reducible assumption | with_reducible exact Chg.refl _ _ | (with_reducible refine cg_drew ?_) | (with_reducible refine cg_drewN ?_) | (with_reducible refine cg_alloc ?_) | (with_reducible refine cg_set ?_ ?_; (focus (first | exact Or.inl (by assumption) | (simp; done) | (simp; omega)))) | (with_reducible refine cg_below (by assumption) ?_)))) (by (apply bk_eq; (focus (repeat (first | with_reducible exact bk_new rfl | with_reducible assumption | (with_reducible apply bk_drew) | (with_reducible apply bk_drewN) | (with_reducible apply bk_alloc) | (with_reducible apply bk_set) | (with_reducible apply bk_far; (focus (first | assumption | omega | (simp; done) | (simp; omega)))) | (with_reducible apply bk_below; (focus assumption); (focus (first | assumption | omega | (simp; done) | (simp; omega))))))); (first | rfl | (simp; done) | trace_state)))
  · (repeat (first | with_reducible assumption | with_reducible exact Chg.refl _ _ | (with_reducible refine cg_drew ?_) | (with_reducible refine cg_drewN ?_) | (with_reducible refine cg_alloc ?_) | (with_reducible refine cg_set ?_ ?_; (focus (first | exact Or.inl (by assumption) | (simp; done) | (simp; omega)))) | (with_reducible refine cg_below (by assumption) ?_)))
end Go.Proofs.Ytimkoepaeebleaa
