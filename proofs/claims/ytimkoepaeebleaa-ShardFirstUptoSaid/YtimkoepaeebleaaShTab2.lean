/- The calls of a shard.Table that only look at it: its worker's next step, its lock, whether it waits. -/
import Derived.Test.YtimkoepaeebleaaShTab
namespace Go.Proofs.Ytimkoepaeebleaa
open Go.RowKit

theorem zero_hand (w : World) : (zeroValue 105).run Try.prog w = .ok (.pointer none) w := by kernel_rfl
theorem zero_i64 (w : World) : (zeroValue 2).run Try.prog w = .ok (.int .i64 0) w := by kernel_rfl
theorem zero_bool (w : World) : (zeroValue 4).run Try.prog w = .ok (.bool false) w := by kernel_rfl
theorem TableAt.hand_at {w : World} {S R : Nat → Prop} {T : TS} (h : TableAt w S R T) {i : Nat} {x : Hand} (hi : mget T.hands i = some x) :
    (Instr.lookup 63 (.map (some T.hb)) (.int .i64 i) false).run Try.prog w = .ok (.pointer (some ⟨x.blk, 0, none⟩)) w := by
  have := h.hands.look keyW Try.underlying63 (zero_hand w) i false
  rw [hi] at this
  exact this
theorem TableAt.hand_no {w : World} {S R : Nat → Prop} {T : TS} (h : TableAt w S R T) {i : Nat} (hi : mget T.hands i = none) :
    (Instr.lookup 63 (.map (some T.hb)) (.int .i64 i) false).run Try.prog w = .ok (.pointer none) w := by
  have := h.hands.look keyW Try.underlying63 (zero_hand w) i false
  rw [hi] at this
  exact this
theorem TableAt.hand_cell {w : World} {S R : Nat → Prop} {T : TS} (h : TableAt w S R T) {i : Nat} {x : Hand} (hi : mget T.hands i = some x) : Blk w x.blk 107 #[.int .i64 x.at_, .int .i64 x.next, .bool x.found, .int .i64 x.v] :=
  h.hand (i, x) (mget_some_mem hi)

theorem ask_key (x y : Int) (s : ByteArray) (w : World) : (Instr.field 70 (.agg #[.int .i64 x, .string s, .int .i64 y]) 1).run Try.prog w = .ok (.string s) w := by kernel_rfl
/-- The step that comes next. -/
def nextOf (T : TS) (i : Nat) : Int := match mget T.hands i with | some x => x.next | none => 0
theorem next_any (w : World) (S R : Nat → Prop) (T : TS) (h : TableAt w S R T) (i : Nat) : Calls Try.prog 39 #[.pointer (some ⟨T.bt, 0, none⟩), .int .i64 i] w fun e w' => e = .returned (.int .i64 (nextOf T i)) ∧ w = w' := by
  have c4 := h.c4
  cases hx : mget T.hands i with
  | none =>
    have e : nextOf T i = 0 := by simp [nextOf, hx]
    rw [e]
    have hl := h.hand_no hx
    clear h e hx
    go_enter Try.func39, Try.ntmps39
    go_wp2
    go_ret
    exact ⟨rfl, rfl⟩
  | some x =>
    have e : nextOf T i = x.next := by simp [nextOf, hx]
    rw [e]
    have hl := h.hand_at hx
    have hc : w.cell? ⟨x.blk, 1, none⟩ = some (.int .i64 x.next) := by simpa using (h.hand_cell hx).cell 1
    clear h e hx
    go_enter Try.func39, Try.ntmps39
    go_wp2
    go_ret
    exact ⟨rfl, rfl⟩

set_option maxRecDepth 100000 in
set_option maxHeartbeats 1000000 in
theorem lock_in (w : World) (S R : Nat → Prop) (T : TS) (h : TableAt w S R T) (i k : Nat) (asks : List Ask) (a : Ask) (hi : T.work[i]? = some asks) (hk : T.at_[i]? = some k) (ha : asks[k]? = some a) (kd : Int) :
    Calls Try.prog 41 #[.pointer (some ⟨T.bt, 0, none⟩), .int .i64 i, .int .i64 kd] w fun e w' => e = .returned (.agg #[.int .i64 kd, .int .i64 (ofL a.key.data.toList T.nsh), .int .i64 0, .int .i64 0]) ∧ Below w.heap.size w w' := by
  have H := Lib.hid h
  have c1 := h.c1
  have n1 := h.lt _ h.s_bt
  have hsz : a.key.size ≤ 1048576 := h.len_k i asks hi a (List.mem_of_getElem? ha)
  have hsh := h.len_sh
  have Ha := Lib.hid (fun W (hb : Below w.heap.size w W) => ask_in W S R T (h.below hb) i k asks a hi hk ha)
  have hfd := fun W => ask_key a.kind a.value a.key W
  clear h hi hk ha
  go_enter Try.func41, Try.ntmps41
  go_wp2_with fail
  go_region_held3 (fun w' => w'.cell? ⟨T.bt, 1, none⟩ = some (.int .i64 T.nsh)) (simp [go_sem, *])
    ((first | (go_at_call 42; refine (Ha.out _ (by (repeat (first | with_reducible exact Below.refl _ _ | (with_reducible refine bl_drew ?_) | (with_reducible refine bl_drewN ?_) | (with_reducible refine bl_alloc ?_ ?_; (focus (first | omega | (simp; done) | (simp; omega)))) | (with_reducible refine bl_set ?_ ?_; (focus (first | omega | (simp; done) | (simp; omega)))) | (with_reducible refine bl_trans ?_ (by assumption) ?_; (focus (first | omega | (simp; done) | (simp; omega)))))))).mono ?_; rintro e w1 ⟨rfl, hb_w1⟩; obtain ⟨hc_w1, hf_w1⟩ := bcell hb_w1; have hz_w1 := hb_w1.size; try simp at hz_w1) | (go_at_call 10; refine (Of_any _ _ _ hsz (by omega)).mono ?_; rintro e w2 ⟨rfl, rfl⟩)))
  go_wp2_with fail
  refine bodyPost_ret (v := .agg #[.int .i64 kd, .int .i64 (ofL a.key.data.toList T.nsh), .int .i64 0, .int .i64 0]) (by simp [results, Try.results41, go_sem, *]) rfl ⟨rfl, (by (repeat (first | with_reducible exact Below.refl _ _ | (with_reducible refine bl_drew ?_) | (with_reducible refine bl_drewN ?_) | (with_reducible refine bl_alloc ?_ ?_; (focus (first | omega | (simp; done) | (simp; omega)))) | (with_reducible refine bl_set ?_ ?_; (focus (first | omega | (simp; done) | (simp; omega)))) | (with_reducible refine bl_trans ?_ (by assumption) ?_; (focus (first | omega | (simp; done) | (simp; omega)))))))⟩

/-- The number of the ask's shard. -/
def shOf (T : TS) (a : Ask) : Nat := (ofL a.key.data.toList T.nsh).toNat
theorem shOf_eq {w : World} {S R : Nat → Prop} {T : TS} (h : TableAt w S R T) (a : Ask) : ofL a.key.data.toList T.nsh = (shOf T a : Int) ∧ shOf T a < T.nsh := by
  have := ofL_bounds a.key.data.toList T.nsh (by have := h.len_sh; omega)
  unfold shOf; omega

theorem Waits_done (w : World) (S R : Nat → Prop) (T : TS) (h : TableAt w S R T) (i k : Nat) (asks : List Ask) (hi : T.work[i]? = some asks) (hk : T.at_[i]? = some k) (hd : k = asks.length) :
    Calls Try.prog 18 #[.pointer (some ⟨T.bt, 0, none⟩), .int .i64 i] w fun e w' => e = .returned (.bool false) ∧ ∃ n, w' = w.drewN n := by
  have hD := Done_in w S R T h i k asks hi hk
  rw [show decide (k = asks.length) = true by simpa using hd] at hD
  have HD := Lib.hid hD
  clear h hi hk hd hD
  go_enter Try.func18, Try.ntmps18
  go_wp2_with fail
  refine HD.out.mono ?_
  rintro e w' ⟨rfl, n, rfl⟩
  go_wp2_with fail
  go_ret
  exact ⟨rfl, n, rfl⟩

set_option maxHeartbeats 1000000 in
theorem Waits_lock (w : World) (S R : Nat → Prop) (T : TS) (h : TableAt w S R T) (i k : Nat) (asks : List Ask) (a : Ask) (hi : T.work[i]? = some asks) (hk : T.at_[i]? = some k) (ha : asks[k]? = some a) (hn : nextOf T i = 0) (o : Int) (ho : T.own[shOf T a]? = some o) (hoi : o ≠ i) (hok : okOwner o = true) :
    Calls Try.prog 18 #[.pointer (some ⟨T.bt, 0, none⟩), .int .i64 i] w fun e w' => e = .returned (.bool (!decide (o = -1))) ∧ Below w.heap.size w w' := by
  have hkl : k < asks.length := (List.getElem?_eq_some_iff.1 ha).1
  have hil : i < T.work.length := (List.getElem?_eq_some_iff.1 hi).1
  have hwl := h.len_w
  have hD := Done_in w S R T h i k asks hi hk
  rw [show decide (k = asks.length) = false by simp; omega] at hD
  have HD := Lib.hid hD
  have HN := Lib.hid (fun n => next_any (w.drewN n) S R T (h.drewN n) i)
  rw [hn] at HN
  have HL := Lib.hid (fun n => lock_in (w.drewN n) S R T (h.drewN n) i k asks a hi hk ha 3)
  have HM : Hid (∀ n W, Below (w.drewN n).heap.size (w.drewN n) W → Calls Try.prog 40 #[.pointer (some ⟨T.lk, 0, none⟩), .int .i64 i, .agg #[.int .i64 3, .int .i64 (ofL a.key.data.toList T.nsh), .int .i64 0, .int .i64 0]] W fun e w' => e = .returned (.bool (!decide (o = -1))) ∧ Below W.heap.size W w') := by
    intro n W hb
    have hT := (h.drewN n).below hb
    have hwk : isWk i = true := by simp [isWk]; omega
    obtain ⟨e1, e2⟩ := shOf_eq h a
    rw [e1]
    by_cases h1 : o = -1
    · subst h1
      exact MemWaits_free _ _ _ _ _ _ _ 0 _ hwk e2 (by have := h.len_sh; omega) (hT.mem.at_ ho)
    · rw [show (!decide (o = -1)) = true by simpa using h1]
      exact MemWaits_busy _ _ _ _ _ _ _ o _ hwk e2 (by have := h.len_sh; omega) (hT.mem.at_ ho) h1 hoi hok
  have c0 := h.c0
  have n1 := h.lt _ h.s_bt
  clear h hi hk ha hn ho hD
  go_enter Try.func18, Try.ntmps18
  go_wp2_with fail
  refine HD.out.mono ?_
  rintro e w' ⟨rfl, n, rfl⟩
  go_wp2_with fail
  refine (HN.out _).mono ?_
  rintro e w' ⟨rfl, rfl⟩
  go_wp2_with fail
  go_region_held3 (fun w' => w'.cell? ⟨T.bt, 0, none⟩ = some (.pointer (some ⟨T.lk, 0, none⟩))) ((first | (simp [go_sem, *]; done) | ((repeat' apply And.intro) <;> (first | (simp [go_sem, *]; done) | ((repeat (first | with_reducible assumption | (with_reducible apply keepD) | (with_reducible apply keepDN) | (with_reducible apply keepDf) | (with_reducible apply keepDNf) | (with_reducible refine keepA ?_ ?_; (focus (first | assumption | omega | (simp; done) | (simp; omega)))) | (with_reducible refine keepAf ?_ ?_; (focus (first | assumption | omega | (simp; done) | (simp; omega)))) | (with_reducible refine keepS ?_ ?_; (focus (first | assumption | omega | (simp; done) | (simp; omega) | (simp [*]; done)))) | (with_reducible apply keepSf) | (with_reducible refine keep1 (by assumption) ?_ ?_; (focus (first | assumption | omega | (simp; done) | (simp; omega)))) | (with_reducible refine keep1f (by assumption) ?_ ?_; (focus (first | assumption | omega | (simp; done) | (simp; omega)))) | (with_reducible refine keep2 (by assumption) ?_ ?_ ?_; (focus (first | assumption | omega | (simp; done) | (simp; omega))); (focus (first | assumption | omega | (simp; done) | (simp; omega) | (simp [*]; done)))) | (with_reducible refine keep2f (by assumption) ?_ ?_ ?_; (focus (first | assumption | omega | (simp; done) | (simp; omega))); (focus (first | assumption | omega | (simp; done) | (simp; omega) | (simp [*]; done)))))); done) | ((repeat (first | with_reducible assumption | (with_reducible apply keepD) | (with_reducible apply keepDN) | (with_reducible apply keepDf) | (with_reducible apply keepDNf) | (with_reducible refine keepA ?_ ?_; (focus (first | assumption | omega | (simp; done) | (simp; omega)))) | (with_reducible refine keepAf ?_ ?_; (focus (first | assumption | omega | (simp; done) | (simp; omega)))) | (with_reducible refine keepS ?_ ?_; (focus (first | assumption | omega | (simp; done) | (simp; omega) | (simp [*]; done)))) | (with_reducible apply keepSf) | (with_reducible refine keep1 (by assumption) ?_ ?_; (focus (first | assumption | omega | (simp; done) | (simp; omega)))) | (with_reducible refine keep1f (by assumption) ?_ ?_; (focus (first | assumption | omega | (simp; done) | (simp; omega)))) | (with_reducible refine keep2 (by assumption) ?_ ?_ ?_; (focus (first | assumption | omega | (simp; done) | (simp; omega))); (focus (first | assumption | omega | (simp; done) | (simp; omega) | (simp [*]; done)))) | (with_reducible refine keep2f (by assumption) ?_ ?_ ?_; (focus (first | assumption | omega | (simp; done) | (simp; omega))); (focus (first | assumption | omega | (simp; done) | (simp; omega) | (simp [*]; done)))))); simp [go_sem, *]; done)))))
    ((first | (go_at_call 41; refine (HL.out _).mono ?_; rintro e w1 ⟨rfl, hb_w1⟩; obtain ⟨hc_w1, hf_w1⟩ := bcell hb_w1; have hz_w1 := hb_w1.size; try simp at hz_w1) | (go_at_call 40; refine (HM.out _ _ (by (repeat (first | with_reducible exact Below.refl _ _ | (with_reducible refine bl_drew ?_) | (with_reducible refine bl_drewN ?_) | (with_reducible refine bl_alloc ?_ ?_; (focus (first | omega | (simp; done) | (simp; omega)))) | (with_reducible refine bl_set ?_ ?_; (focus (first | omega | (simp; done) | (simp; omega)))) | (with_reducible refine bl_trans ?_ (by assumption) ?_; (focus (first | omega | (simp; done) | (simp; omega)))))))).mono ?_; rintro e w2 ⟨rfl, hb_w2⟩; obtain ⟨hc_w2, hf_w2⟩ := bcell hb_w2; have hz_w2 := hb_w2.size; try simp at hz_w2)))
  go_wp2_with fail
  go_ret
  exact ⟨rfl, (by (repeat (first | with_reducible exact Below.refl _ _ | (with_reducible refine bl_drew ?_) | (with_reducible refine bl_drewN ?_) | (with_reducible refine bl_alloc ?_ ?_; (focus (first | omega | (simp; done) | (simp; omega)))) | (with_reducible refine bl_set ?_ ?_; (focus (first | omega | (simp; done) | (simp; omega)))) | (with_reducible refine bl_trans ?_ (by assumption) ?_; (focus (first | omega | (simp; done) | (simp; omega)))))))⟩

set_option maxRecDepth 100000 in
set_option maxHeartbeats 1000000 in
theorem Waits_told (w : World) (S R : Nat → Prop) (T : TS) (h : TableAt w S R T) (i k : Nat) (asks : List Ask) (a : Ask) (hi : T.work[i]? = some asks) (hk : T.at_[i]? = some k) (ha : asks[k]? = some a) (hn : nextOf T i = 5) :
    Calls Try.prog 18 #[.pointer (some ⟨T.bt, 0, none⟩), .int .i64 i] w fun e w' => e = .returned (.bool (!((mget T.told a.key).getD false))) ∧ Below w.heap.size w w' := by
  have hkl : k < asks.length := (List.getElem?_eq_some_iff.1 ha).1
  have hD := Done_in w S R T h i k asks hi hk
  rw [show decide (k = asks.length) = false by simp; omega] at hD
  have HD := Lib.hid hD
  have HN := Lib.hid (fun n => next_any (w.drewN n) S R T (h.drewN n) i)
  rw [hn] at HN
  have HL := Lib.hid (fun n => ask_in (w.drewN n) S R T (h.drewN n) i k asks a hi hk ha)
  have HM : Hid (∀ W, Below w.heap.size w W → (Instr.lookup 64 (.map (some T.tb)) (.string a.key) false).run Try.prog W = .ok (.bool ((mget T.told a.key).getD false)) W) := by
    intro W hb
    have := (h.below hb).told.look keyK Try.underlying64 (zero_bool W) a.key false
    cases hg : mget T.told a.key with
    | none => rw [hg] at this; exact this
    | some x => rw [hg] at this; exact this
  have hfd := fun W => ask_key a.kind a.value a.key W
  have c6 := h.c6
  have n1 := h.lt _ h.s_bt
  generalize (mget T.told a.key).getD false = r at *
  clear h hi hk ha hn hD
  go_enter Try.func18, Try.ntmps18
  go_wp2_with fail
  refine HD.out.mono ?_
  rintro e w' ⟨rfl, n, rfl⟩
  go_wp2_with fail
  refine (HN.out _).mono ?_
  rintro e w' ⟨rfl, rfl⟩
  go_wp2_with fail
  go_region_held3 (fun w' => w'.cell? ⟨T.bt, 6, none⟩ = some (.map (some T.tb)) ∧ (Instr.lookup 64 (.map (some T.tb)) (.string a.key) false).run Try.prog w' = .ok (.bool r) w') (((repeat' with_reducible apply And.intro) <;> (first | ((with_reducible refine HM.out _ ?_); (repeat (first | with_reducible exact Below.refl _ _ | (with_reducible refine bl_drew ?_) | (with_reducible refine bl_drewN ?_) | (with_reducible refine bl_alloc ?_ ?_; (focus (first | omega | (simp; done) | (simp; omega)))) | (with_reducible refine bl_set ?_ ?_; (focus (first | omega | (simp; done) | (simp; omega)))) | (with_reducible refine bl_trans ?_ (by assumption) ?_; (focus (first | omega | (simp; done) | (simp; omega)))))); done) | ((first | (simp [go_sem, *]; done) | ((repeat' apply And.intro) <;> (first | (simp [go_sem, *]; done) | ((repeat (first | with_reducible assumption | (with_reducible apply keepD) | (with_reducible apply keepDN) | (with_reducible apply keepDf) | (with_reducible apply keepDNf) | (with_reducible refine keepA ?_ ?_; (focus (first | assumption | omega | (simp; done) | (simp; omega)))) | (with_reducible refine keepAf ?_ ?_; (focus (first | assumption | omega | (simp; done) | (simp; omega)))) | (with_reducible refine keepS ?_ ?_; (focus (first | assumption | omega | (simp; done) | (simp; omega) | (simp [*]; done)))) | (with_reducible apply keepSf) | (with_reducible refine keep1 (by assumption) ?_ ?_; (focus (first | assumption | omega | (simp; done) | (simp; omega)))) | (with_reducible refine keep1f (by assumption) ?_ ?_; (focus (first | assumption | omega | (simp; done) | (simp; omega)))) | (with_reducible refine keep2 (by assumption) ?_ ?_ ?_; (focus (first | assumption | omega | (simp; done) | (simp; omega))); (focus (first | assumption | omega | (simp; done) | (simp; omega) | (simp [*]; done)))) | (with_reducible refine keep2f (by assumption) ?_ ?_ ?_; (focus (first | assumption | omega | (simp; done) | (simp; omega))); (focus (first | assumption | omega | (simp; done) | (simp; omega) | (simp [*]; done)))))); done) | ((repeat (first | with_reducible assumption | (with_reducible apply keepD) | (with_reducible apply keepDN) | (with_reducible apply keepDf) | (with_reducible apply keepDNf) | (with_reducible refine keepA ?_ ?_; (focus (first | assumption | omega | (simp; done) | (simp; omega)))) | (with_reducible refine keepAf ?_ ?_; (focus (first | assumption | omega | (simp; done) | (simp; omega)))) | (with_reducible refine keepS ?_ ?_; (focus (first | assumption | omega | (simp; done) | (simp; omega) | (simp [*]; done)))) | (with_reducible apply keepSf) | (with_reducible refine keep1 (by assumption) ?_ ?_; (focus (first | assumption | omega | (simp; done) | (simp; omega)))) | (with_reducible refine keep1f (by assumption) ?_ ?_; (focus (first | assumption | omega | (simp; done) | (simp; omega)))) | (with_reducible refine keep2 (by assumption) ?_ ?_ ?_; (focus (first | assumption | omega | (simp; done) | (simp; omega))); (focus (first | assumption | omega | (simp; done) | (simp; omega) | (simp [*]; done)))) | (with_reducible refine keep2f (by assumption) ?_ ?_ ?_; (focus (first | assumption | omega | (simp; done) | (simp; omega))); (focus (first | assumption | omega | (simp; done) | (simp; omega) | (simp [*]; done)))))); simp [go_sem, *]; done))))))))
    ((first | (go_at_call 42; refine (HL.out _).mono ?_; rintro e w1 ⟨rfl, hb_w1⟩; obtain ⟨hc_w1, hf_w1⟩ := bcell hb_w1; have hz_w1 := hb_w1.size; try simp at hz_w1)))
  go_wp2_with fail
  go_ret
  exact ⟨rfl, (by (repeat (first | with_reducible exact Below.refl _ _ | (with_reducible refine bl_drew ?_) | (with_reducible refine bl_drewN ?_) | (with_reducible refine bl_alloc ?_ ?_; (focus (first | omega | (simp; done) | (simp; omega)))) | (with_reducible refine bl_set ?_ ?_; (focus (first | omega | (simp; done) | (simp; omega)))) | (with_reducible refine bl_trans ?_ (by assumption) ?_; (focus (first | omega | (simp; done) | (simp; omega)))))))⟩

theorem Waits_other (w : World) (S R : Nat → Prop) (T : TS) (h : TableAt w S R T) (i k : Nat) (asks : List Ask) (hi : T.work[i]? = some asks) (hk : T.at_[i]? = some k) (hkl : k < asks.length) (n0 : nextOf T i ≠ 0) (n5 : nextOf T i ≠ 5) :
    Calls Try.prog 18 #[.pointer (some ⟨T.bt, 0, none⟩), .int .i64 i] w fun e w' => e = .returned (.bool false) ∧ ∃ n, w' = w.drewN n := by
  have hD := Done_in w S R T h i k asks hi hk
  rw [show decide (k = asks.length) = false by simp; omega] at hD
  have HD := Lib.hid hD
  have HN := Lib.hid (fun n => next_any (w.drewN n) S R T (h.drewN n) i)
  generalize nextOf T i = x at *
  have e0 : (x == 0) = false := by simpa using n0
  have e5 : (x == 5) = false := by simpa using n5
  clear h hi hk hD hkl n0 n5
  go_enter Try.func18, Try.ntmps18
  go_wp2_with fail
  refine HD.out.mono ?_
  rintro e w' ⟨rfl, n, rfl⟩
  go_wp2_with fail
  refine (HN.out _).mono ?_
  rintro e w' ⟨rfl, rfl⟩
  go_wp2_with fail
  go_ret
  exact ⟨rfl, n, rfl⟩
end Go.Proofs.Ytimkoepaeebleaa
