/- A worker's call ends: it leaves the worker's hand, its answer comes into the history, the worker has one call less. -/
import Derived.Test.YtimkoepaeebleaaShBeg
namespace Go.Proofs.Ytimkoepaeebleaa
set_option linter.unusedVariables false
open Go.RowKit

def setCall (c : CallR) (to n e : Int) : CallR := { c with to := to, answer := n, err := e }
def TS.ended (T : TS) (i k : Nat) (x : Hand) (c : CallR) (n e : Int) : TS :=
  { T with hands := mdel T.hands i, past := T.past.set x.at_ (setCall c T.steps n e), at_ := T.at_.set i (k + 1) }
def Ended (w : World) (S R : Nat → Prop) (T : TS) (i k : Nat) (x : Hand) (c : CallR) (n e' : Int) (e : Ending) (w' : World) : Prop :=
  e = .returned (.tuple #[]) ∧ TableAt w' S R (T.ended i k x c n e') ∧ Chg S w w'

/-- The history's row, opened at one call. -/
theorem past_at {w : World} {v : Value} {l : List CallR} (h : w.ownsRow 0 46 8 v l.length (l.flatMap CallR.cells)) {j : Nat} {c : CallR} (hj : l[j]? = some c) :
    ∃ g cap cur, v = .slice (some ⟨g, 0, none⟩) l.length cap ∧ l.length ≤ cap ∧ cap ≤ maxLen ∧ Blk w g 46 cur ∧ cur.size = cap * 8 ∧ cur.toList.take (l.length * 8) = l.flatMap CallR.cells := by
  have hl : j < l.length := (List.getElem?_eq_some_iff.1 hj).1
  rcases h.2 with ⟨_, h0⟩ | ⟨g, cap, cur, hv, _, hh, hn, hm, hs, ht⟩
  · omega
  · exact ⟨g, cap, cur, hv, hn, hm, hh, hs, ht⟩

theorem cells_len (c : CallR) : c.cells.length = 8 := rfl
/-- The history's row behind an ending. -/
theorem past_set {cur : Array Value} {l : List CallR} {cap j : Nat} {c : CallR} (hcap : l.length ≤ cap) (hsz : cur.size = cap * 8) (ht : cur.toList.take (l.length * 8) = l.flatMap CallR.cells) (hj : l[j]? = some c) (to n e : Int) :
    (((cur.setIfInBounds (j * 8 + 5) (.int .i64 to)).setIfInBounds (j * 8 + 6) (.int .i64 n)).setIfInBounds (j * 8 + 7) (.int .i64 e)).toList.take (l.length * 8) = (l.set j (setCall c to n e)).flatMap CallR.cells := by
  have hjl : j < l.length := (List.getElem?_eq_some_iff.1 hj).1
  have hjl8 : j * 8 + 8 ≤ l.length * 8 := by omega
  refine flat_ext CallR.cells 8 (by omega) cells_len _ _ (by simp [hsz]; omega) ?_
  intro q r hq hr
  rw [List.length_set] at hq
  have h0 : cur.toList[q * 8 + r]? = (l[q]?).bind fun x => x.cells[r]? := by
    rw [← flat_get CallR.cells 8 cells_len l q r hr, ← ht, List.getElem?_take, if_pos (by omega)]
  rw [List.getElem?_take, if_pos (by omega)]
  simp only [Array.getElem?_toList, Array.getElem?_setIfInBounds, Array.size_setIfInBounds, List.getElem?_set] at h0 ⊢
  by_cases hjq : j = q
  · subst hjq
    rw [hj] at h0
    simp only [if_true, hjl, Option.bind_some] at h0 ⊢
    rcases (by omega : r = 5 ∨ r = 6 ∨ r = 7 ∨ r < 5) with rfl | rfl | rfl | hr5
    · simp [setCall, CallR.cells]; omega
    · simp [setCall, CallR.cells]; omega
    · simp [setCall, CallR.cells]; omega
    · rw [if_neg (by omega), if_neg (by omega), if_neg (by omega), h0]
      match r, hr5 with
      | 0, _ => rfl
      | 1, _ => rfl
      | 2, _ => rfl
      | 3, _ => rfl
      | 4, _ => rfl
  · rw [if_neg (by omega), if_neg (by omega), if_neg (by omega), h0, if_neg hjq]

set_option maxRecDepth 100000 in
set_option maxHeartbeats 2000000 in
theorem ends_in (w : World) (S R : Nat → Prop) (T : TS) (h : TableAt w S R T) (i k : Nat) (x : Hand) (c : CallR) (n e' : Int) (hk : T.at_[i]? = some k) (hx : mget T.hands i = some x) (hc : T.past[x.at_]? = some c) (hk2 : k ≤ 1000000) (hpast : T.past.length ≤ 1000000) :
    Calls Try.prog 54 #[.pointer (some ⟨T.bt, 0, none⟩), .int .i64 i, .int .i64 n, .int .i64 e'] w (Ended w S R T i k x c n e') := by
  have H := Lib.hid h
  obtain ⟨w1, hdel, hM1, hC1, _⟩ := h.hands.drop keyW Try.underlying63 i 0
  change (Builtin.delete_ #[63, 3] 0 #[.map (some T.hb), .int .i64 i]).run Try.prog w = _ at hdel
  have hl := h.hand_at hx
  obtain ⟨g, cap, cur, hv, hcap, hcm, hB, hsz, htk⟩ := past_at h.past hc
  have HSZ := Lib.hid hsz
  have HX := Lib.hid hx
  have HC := Lib.hid hc
  have HV := Lib.hid hv
  have HT := Lib.hid htk
  have HK := Lib.hid hk
  have hal : i < T.at_.length := (List.getElem?_eq_some_iff.1 hk).1
  have hjl : x.at_ < T.past.length := (List.getElem?_eq_some_iff.1 hc).1
  have n1 := h.lt _ h.s_bt
  have n3 : ¬ T.bt = T.hb := blk_ne_map h.tab h.hands
  have n4 : ¬ T.ba = T.hb := blk_ne_map h.at_ h.hands
  have n5 : ¬ g = T.hb := blk_ne_map hB h.hands
  have n6 : ¬ x.blk = T.hb := blk_ne_map (h.hand_cell hx) h.hands
  have c4 := h.c4
  have B1 := bk_chg hC1 n3 h.tab
  have B2 := bk_chg hC1 n4 h.at_
  have B3 := bk_chg hC1 n5 hB
  have B4 := bk_chg hC1 n6 (h.hand_cell hx)
  have m1 : ¬ T.bt = T.ba := h.tab.ne_ h.at_ (by decide)
  have m2 : ¬ T.bt = g := h.tab.ne_ hB (by decide)
  have m3 : ¬ T.ba = g := h.at_.ne_ hB (by decide)
  have m2' : ¬ g = T.bt := fun e => m2 e.symm
  have m3' : ¬ g = T.ba := fun e => m3 e.symm
  have c7 : w1.cell? ⟨T.bt, 7, none⟩ = some (.slice (some ⟨g, 0, none⟩) T.past.length cap) := by rw [B1.cell]; simp [hv]
  have c8 : w1.cell? ⟨T.bt, 8, none⟩ = some (.int .i64 T.steps) := by rw [B1.cell]; simp
  have c3 : w1.cell? ⟨T.bt, 3, none⟩ = some (.slice (some ⟨T.ba, 0, none⟩) T.at_.length T.at_.length) := by rw [B1.cell]; simp
  have d0 : w1.cell? ⟨x.blk, 0, none⟩ = some (.int .i64 x.at_) := by rw [B4.cell]; simp
  have a0 : w1.cell? ⟨T.ba, i, none⟩ = some (.int .i64 k) := by rw [B2.cell]; simp [hk]
  have p5 : w1.cell? ⟨g, x.at_ * 8 + 5, none⟩ = some (cur[x.at_ * 8 + 5]'(by omega)) := by rw [B3.cell]; exact Array.getElem?_eq_getElem _
  have p6 : w1.cell? ⟨g, x.at_ * 8 + 6, none⟩ = some (cur[x.at_ * 8 + 6]'(by omega)) := by rw [B3.cell]; exact Array.getElem?_eq_getElem _
  have p7 : w1.cell? ⟨g, x.at_ * 8 + 7, none⟩ = some (cur[x.at_ * 8 + 7]'(by omega)) := by rw [B3.cell]; exact Array.getElem?_eq_getElem _
  generalize cur[x.at_ * 8 + 5]'(by omega) = v5 at p5
  generalize cur[x.at_ * 8 + 6]'(by omega) = v6 at p6
  generalize cur[x.at_ * 8 + 7]'(by omega) = v7 at p7
  have f1 := B3.free
  have f2 := B2.free
  have b1 : (0 : Int) ≤ (x.at_ : Int) := by omega
  have b2 : (x.at_ : Int) < (T.past.length : Int) := by omega
  have b3 : (0 : Int) ≤ (i : Int) := by omega
  have b4 : (i : Int) < (T.at_.length : Int) := by omega
  have HB1 := Lib.hid B1
  have HB2 := Lib.hid B2
  have HB3 := Lib.hid B3
  clear h hk hx hc hv htk hsz B1 B2 B3 B4
  go_enter Try.func54, Try.ntmps54
  go_wp2_with fail
  go_quiet (fail)
  go_wp2_with fail
  go_end0
  have h := H.out
  have hC : Chg (fun b => b = T.hb ∨ b = g ∨ b = T.ba) w (((((w1.drewN nq).setCell ⟨g, x.at_ * 8 + 5, none⟩ (.int .i64 T.steps)).setCell ⟨g, x.at_ * 8 + 6, none⟩ (.int .i64 n)).setCell ⟨g, x.at_ * 8 + 7, none⟩ (.int .i64 e')).setCell ⟨T.ba, i, none⟩ (.int .i64 (k + 1))) :=
    cg_set (.inl (.inr (.inr rfl))) (cg_set (.inl (.inr (.inl rfl))) (cg_set (.inl (.inr (.inl rfl))) (cg_set (.inl (.inr (.inl rfl))) (cg_drewN (hC1.mono fun b _ hb => .inl hb)))))
  have hC2 : Chg (fun b => b = g ∨ b = T.ba) w1 (((((w1.drewN nq).setCell ⟨g, x.at_ * 8 + 5, none⟩ (.int .i64 T.steps)).setCell ⟨g, x.at_ * 8 + 6, none⟩ (.int .i64 n)).setCell ⟨g, x.at_ * 8 + 7, none⟩ (.int .i64 e')).setCell ⟨T.ba, i, none⟩ (.int .i64 (k + 1))) :=
    cg_set (.inl (.inr rfl)) (cg_set (.inl (.inl rfl)) (cg_set (.inl (.inl rfl)) (cg_set (.inl (.inl rfl)) (cg_drewN (Chg.refl _ _)))))
  have G1 := bk_far (p := ⟨T.ba, i, none⟩) (u := .int .i64 (k + 1)) m3' (bk_set (i := x.at_ * 8 + 7) (u := .int .i64 e') (bk_set (i := x.at_ * 8 + 6) (u := .int .i64 n) (bk_set (i := x.at_ * 8 + 5) (u := .int .i64 T.steps) (bk_drewN (n := nq) HB3.out))))
  have G2 := bk_set (i := i) (u := .int .i64 (k + 1)) (bk_far (p := ⟨g, x.at_ * 8 + 7, none⟩) (u := .int .i64 e') m3 (bk_far (p := ⟨g, x.at_ * 8 + 6, none⟩) (u := .int .i64 n) m3 (bk_far (p := ⟨g, x.at_ * 8 + 5, none⟩) (u := .int .i64 T.steps) m3 (bk_drewN (n := nq) HB2.out))))
  generalize (((((w1.drewN nq).setCell ⟨g, x.at_ * 8 + 5, none⟩ (.int .i64 T.steps)).setCell ⟨g, x.at_ * 8 + 6, none⟩ (.int .i64 n)).setCell ⟨g, x.at_ * 8 + 7, none⟩ (.int .i64 e')).setCell ⟨T.ba, i, none⟩ (.int .i64 (k + 1))) = w' at *
  have hgS : S g := h.s_pv g (by rw [HV.out]; rfl)
  have hZS : ∀ b, b < w.heap.size → (b = T.hb ∨ b = g ∨ b = T.ba) → S b := by
    rintro b _ (rfl | rfl | rfl)
    · exact h.s_hb
    · exact hgS
    · exact h.s_ba
  have hz := hC.size
  have kc : ∀ {b t cs}, Blk w b t cs → t ≠ 46 → t ≠ 3 → w'.heap[b]? = w.heap[b]? := fun hX h1 h2 =>
    hC.block _ hX.lt (by rintro (h' | h' | h'); exact blk_ne_map hX h.hands h'; exact hX.ne_ hB h1 h'; exact hX.ne_ h.at_ h2 h')
  obtain ⟨arr, hck, _⟩ := h.mem.ckb
  refine ⟨rfl, ?_, hC.mono hZS⟩
  exact {
    tab := (kc h.tab (by decide) (by decide)).trans (by
      have := h.tab
      unfold Blk at this
      simpa [TS.ended] using this)
    mem := h.mem.keep (kc h.mem.lkb (by decide) (by decide)) (kc hck (by decide) (by decide))
    wrk := h.wrk_keep (h.kR hC hZS) hz
    at_ := by
      refine bk_eq G2 ?_
      simp [TS.ended, List.map_set]
    hands := by
      exact hM1.chg hC2 (by rintro (h' | h'); exact n5 h'.symm; exact n4 h'.symm)
    hand := fun p hp => by
      have hp' : p ∈ T.hands := (List.mem_filter.1 hp).1
      exact (kc (h.hand p hp') (by decide) (by decide)).trans (h.hand p hp')
    values := h.values.keep (hC.block _ h.values.lt (by rintro (h' | h' | h'); exact h.ne1 h'.symm; exact blk_ne_map hB h.values h'.symm; exact blk_ne_map h.at_ h.values h'.symm))
    told := h.told.keep (hC.block _ h.told.lt (by rintro (h' | h' | h'); exact h.ne2 h'.symm; exact blk_ne_map hB h.told h'.symm; exact blk_ne_map h.at_ h.told h'.symm))
    past := by
      refine ⟨by rw [flat_len _ 8 cells_len], .inr ⟨g, cap, _, ?_, Nat.zero_le _, G1, ?_, hcm, ?_, ?_⟩⟩
      · show T.pv = _
        rw [HV.out]
        simp [TS.ended]
      · simpa [TS.ended] using hcap
      · simpa using HSZ.out
      · have := past_set hcap HSZ.out HT.out HC.out T.steps n e'
        simpa [TS.ended] using this
    s_bt := h.s_bt
    s_lk := h.s_lk
    s_ck := h.s_ck
    r_bw := h.r_bw
    s_ba := h.s_ba
    s_hb := h.s_hb
    s_vb := h.s_vb
    s_tb := h.s_tb
    s_pv := h.s_pv
    s_hand := fun p hp => h.s_hand p (List.mem_filter.1 hp).1
    lt := fun b hb => by have := h.lt b hb; omega
    ltR := fun b hb => by have := h.ltR b hb; omega
    dis := h.dis
    ne1 := h.ne1
    ne2 := h.ne2
    ne3 := h.ne3
    ne4 := h.ne4.sublist (List.Sublist.map _ (List.filter_sublist))
    len_at := by simpa [TS.ended] using h.len_at
    len_w := h.len_w
    len_sh := h.len_sh
    len_a := h.len_a
    len_k := h.len_k }
end Go.Proofs.Ytimkoepaeebleaa
