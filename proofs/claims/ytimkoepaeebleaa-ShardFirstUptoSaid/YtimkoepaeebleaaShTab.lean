/- A shard.Table in memory, and the calls that only look at it. -/
import Derived.Test.YtimkoepaeebleaaShDo
namespace Go.Proofs.Ytimkoepaeebleaa
open Go.RowKit

theorem beq_cast (a b : Nat) : ((a : Int) == (b : Int)) = decide (a = b) := by rw [Bool.eq_iff_iff]; simp; omega

structure Ask where
  kind : Int
  key : ByteArray
  value : Int
structure CallR where
  worker : Int
  kind : Int
  key : ByteArray
  value : Int
  from_ : Int
  to : Int
  answer : Int
  err : Int
def CallR.cells (c : CallR) : List Value := [.int .i64 c.worker, .int .i64 c.kind, .string c.key, .int .i64 c.value, .int .i64 c.from_, .int .i64 c.to, .int .i64 c.answer, .int .i64 c.err]
/-- A worker's call in hand, and its block. -/
structure Hand where
  blk : Nat
  at_ : Nat
  next : Int
  found : Bool
  v : Int
def encW (i : Nat) : Value := .int .i64 i
def evH (h : Hand) : Value := .pointer (some ⟨h.blk, 0, none⟩)
def encK (s : ByteArray) : Value := .string s
def evI (n : Int) : Value := .int .i64 n
def evB (b : Bool) : Value := .bool b
theorem keyW : KeyEnc Try.prog 3 encW := ⟨⟨_, Try.underlying3, fun _ => rfl⟩, fun a b h => by simp [encW] at h; omega⟩
theorem keyK : KeyEnc Try.prog 9 encK := ⟨⟨_, Try.underlying9, fun _ => trivial⟩, fun a b h => by simp [encK] at h; exact h⟩

/-- The asks that lie at A, in blocks of S. -/
def AskRow (w : World) (S : Nat → Prop) (A : Option Addr) (asks : List Ask) : Prop := ∀ k a, asks[k]? = some a →
  ∃ b off, A = some ⟨b, off, none⟩ ∧ S b ∧ b < w.heap.size ∧ w.cell? ⟨b, off + k * 3, none⟩ = some (.int .i64 a.kind) ∧ w.cell? ⟨b, off + k * 3 + 1, none⟩ = some (.string a.key) ∧ w.cell? ⟨b, off + k * 3 + 2, none⟩ = some (.int .i64 a.value)
theorem AskRow.keep {w w' : World} {S S' : Nat → Prop} {A : Option Addr} {asks : List Ask} (h : AskRow w S A asks) (hs : ∀ b, S b → b < w.heap.size → w'.heap[b]? = w.heap[b]?) (hS : ∀ b, S b → S' b) (hz : w.heap.size ≤ w'.heap.size) : AskRow w' S' A asks := by
  intro k a hk
  obtain ⟨b, off, h1, h2, h3, h4, h5, h6⟩ := h k a hk
  have hc : ∀ o, w'.cell? ⟨b, o, none⟩ = w.cell? ⟨b, o, none⟩ := fun o => World.cell?_of_block (hs b h2 h3)
  exact ⟨b, off, h1, hS b h2, by omega, (hc _).trans h4, (hc _).trans h5, (hc _).trans h6⟩

structure TS where
  bt : Nat
  lk : Nat
  ck : Nat
  bw : Nat
  ba : Nat
  hb : Nat
  vb : Nat
  tb : Nat
  wcap : Nat
  mcap : Nat
  pv : Value
  nsh : Nat
  mst : Int
  own : List Int
  work : List (List Ask)
  at_ : List Nat
  hands : List (Nat × Hand)
  values : List (ByteArray × Int)
  told : List (ByteArray × Bool)
  past : List CallR
  steps : Nat

structure TableAt (w : World) (S R : Nat → Prop) (T : TS) : Prop where
  tab : Blk w T.bt 66 #[.pointer (some ⟨T.lk, 0, none⟩), .int .i64 T.nsh, .slice (some ⟨T.bw, 0, none⟩) T.work.length T.wcap, .slice (some ⟨T.ba, 0, none⟩) T.at_.length T.at_.length, .map (some T.hb), .map (some T.vb), .map (some T.tb), T.pv, .int .i64 T.steps]
  mem : MemAt w T.lk T.ck T.nsh T.mcap T.mst T.own
  wrk : ∃ arr : Array Value, Blk w T.bw 71 arr ∧ ∀ (i : Nat) (asks : List Ask), T.work[i]? = some asks → ∃ A c, arr[i]? = some (.slice A asks.length c) ∧ asks.length ≤ c ∧ AskRow w R A asks
  at_ : Blk w T.ba 3 (T.at_.map (fun n : Nat => Value.int .i64 (n : Int))).toArray
  hands : MapAt w T.hb encW evH T.hands
  hand : ∀ p ∈ T.hands, Blk w p.2.blk 107 #[.int .i64 p.2.at_, .int .i64 p.2.next, .bool p.2.found, .int .i64 p.2.v]
  values : MapAt w T.vb encK evI T.values
  told : MapAt w T.tb encK evB T.told
  past : w.ownsRow 0 46 8 T.pv T.past.length (T.past.flatMap CallR.cells)
  s_bt : S T.bt
  s_lk : S T.lk
  s_ck : S T.ck
  r_bw : R T.bw
  s_ba : S T.ba
  s_hb : S T.hb
  s_vb : S T.vb
  s_tb : S T.tb
  s_pv : ∀ b, T.pv.ownBlock = some b → S b
  s_hand : ∀ p ∈ T.hands, S p.2.blk
  lt : ∀ b, S b → b < w.heap.size
  ltR : ∀ b, R b → b < w.heap.size
  dis : ∀ b, R b → ¬ S b
  ne1 : T.hb ≠ T.vb
  ne2 : T.hb ≠ T.tb
  ne3 : T.vb ≠ T.tb
  ne4 : (T.hands.map (fun p => p.2.blk)).Nodup
  len_at : T.at_.length = T.work.length
  len_w : T.work.length ≤ 64
  len_sh : T.nsh ≤ 256 ∧ 1 ≤ T.nsh
  len_a : ∀ (i : Nat) (asks : List Ask), T.work[i]? = some asks → asks.length ≤ 1024
  len_k : ∀ (i : Nat) (asks : List Ask), T.work[i]? = some asks → ∀ a ∈ asks, a.key.size ≤ 1048576

section
variable {w w' : World} {S R : Nat → Prop} {T : TS}
theorem TableAt.c0 (h : TableAt w S R T) : w.cell? ⟨T.bt, 0, none⟩ = some (.pointer (some ⟨T.lk, 0, none⟩)) := by simpa using h.tab.cell 0
theorem TableAt.c1 (h : TableAt w S R T) : w.cell? ⟨T.bt, 1, none⟩ = some (.int .i64 T.nsh) := by simpa using h.tab.cell 1
theorem TableAt.c2 (h : TableAt w S R T) : w.cell? ⟨T.bt, 2, none⟩ = some (.slice (some ⟨T.bw, 0, none⟩) T.work.length T.wcap) := by simpa using h.tab.cell 2
theorem TableAt.c3 (h : TableAt w S R T) : w.cell? ⟨T.bt, 3, none⟩ = some (.slice (some ⟨T.ba, 0, none⟩) T.at_.length T.at_.length) := by simpa using h.tab.cell 3
theorem TableAt.c4 (h : TableAt w S R T) : w.cell? ⟨T.bt, 4, none⟩ = some (.map (some T.hb)) := by simpa using h.tab.cell 4
theorem TableAt.c5 (h : TableAt w S R T) : w.cell? ⟨T.bt, 5, none⟩ = some (.map (some T.vb)) := by simpa using h.tab.cell 5
theorem TableAt.c6 (h : TableAt w S R T) : w.cell? ⟨T.bt, 6, none⟩ = some (.map (some T.tb)) := by simpa using h.tab.cell 6
theorem TableAt.c7 (h : TableAt w S R T) : w.cell? ⟨T.bt, 7, none⟩ = some T.pv := by simpa using h.tab.cell 7
theorem TableAt.c8 (h : TableAt w S R T) : w.cell? ⟨T.bt, 8, none⟩ = some (.int .i64 T.steps) := by simpa using h.tab.cell 8
theorem TableAt.at_cell (h : TableAt w S R T) {i k : Nat} (hi : T.at_[i]? = some k) : w.cell? ⟨T.ba, i, none⟩ = some (.int .i64 k) := by
  rw [h.at_.cell]; simp [hi]
theorem TableAt.wrk_cell (h : TableAt w S R T) {i : Nat} {asks : List Ask} (hi : T.work[i]? = some asks) : ∃ A c, w.cell? ⟨T.bw, i, none⟩ = some (.slice A asks.length c) ∧ asks.length ≤ c ∧ AskRow w R A asks := by
  obtain ⟨arr, h1, h2⟩ := h.wrk
  obtain ⟨A, c, h3, h4, h5⟩ := h2 i asks hi
  exact ⟨A, c, by rw [h1.cell]; exact h3, h4, h5⟩
/-- What lies in S is as it was: so is the table. -/
theorem TableAt.keep (h : TableAt w S R T) (hs : ∀ b, S b → w'.heap[b]? = w.heap[b]?) (hr : ∀ b, R b → w'.heap[b]? = w.heap[b]?) (hz : w.heap.size ≤ w'.heap.size) : TableAt w' S R T where
  tab := (hs _ h.s_bt).trans h.tab
  mem := h.mem.keep (hs _ h.s_lk) (hs _ h.s_ck)
  wrk := by
    obtain ⟨arr, h1, h2⟩ := h.wrk
    refine ⟨arr, (hr _ h.r_bw).trans h1, fun i asks hi => ?_⟩
    obtain ⟨A, c, h3, h4, h5⟩ := h2 i asks hi
    exact ⟨A, c, h3, h4, h5.keep (fun b hb _ => hr b hb) (fun _ h => h) hz⟩
  at_ := (hs _ h.s_ba).trans h.at_
  hands := h.hands.keep (hs _ h.s_hb)
  hand := fun p hp => (hs _ (h.s_hand p hp)).trans (h.hand p hp)
  values := h.values.keep (hs _ h.s_vb)
  told := h.told.keep (hs _ h.s_tb)
  past := by
    obtain ⟨h1, h2⟩ := h.past
    refine ⟨h1, ?_⟩
    rcases h2 with h2 | ⟨g, cap, cur, hv, hg, hh, r⟩
    · exact .inl h2
    · exact .inr ⟨g, cap, cur, hv, hg, (hs g (h.s_pv g (by rw [hv]; rfl))).trans hh, r⟩
  s_bt := h.s_bt
  s_lk := h.s_lk
  s_ck := h.s_ck
  r_bw := h.r_bw
  s_ba := h.s_ba
  s_hb := h.s_hb
  s_vb := h.s_vb
  s_tb := h.s_tb
  s_pv := h.s_pv
  s_hand := h.s_hand
  lt := fun b hb => Nat.lt_of_lt_of_le (h.lt b hb) hz
  ltR := fun b hb => Nat.lt_of_lt_of_le (h.ltR b hb) hz
  dis := h.dis
  ne1 := h.ne1
  ne2 := h.ne2
  ne3 := h.ne3
  ne4 := h.ne4
  len_at := h.len_at
  len_w := h.len_w
  len_sh := h.len_sh
  len_a := h.len_a
  len_k := h.len_k
theorem TableAt.wrk_keep (h : TableAt w S R T) (hr : ∀ b, R b → w'.heap[b]? = w.heap[b]?) (hz : w.heap.size ≤ w'.heap.size) : ∃ arr : Array Value, Blk w' T.bw 71 arr ∧ ∀ (i : Nat) (asks : List Ask), T.work[i]? = some asks → ∃ A c, arr[i]? = some (.slice A asks.length c) ∧ asks.length ≤ c ∧ AskRow w' R A asks := by
  obtain ⟨arr, h1, h2⟩ := h.wrk
  refine ⟨arr, (hr _ h.r_bw).trans h1, fun i asks hi => ?_⟩
  obtain ⟨A, c, h3, h4, h5⟩ := h2 i asks hi
  exact ⟨A, c, h3, h4, h5.keep (fun b hb _ => hr b hb) (fun _ h => h) hz⟩
theorem TableAt.kR {Z : Nat → Prop} (h : TableAt w S R T) (hC : Chg Z w w') (hZ : ∀ b, b < w.heap.size → Z b → S b) : ∀ b, R b → w'.heap[b]? = w.heap[b]? :=
  fun b hb => hC.block b (h.ltR b hb) fun hz => h.dis b hb (hZ b (h.ltR b hb) hz)
theorem TableAt.below (h : TableAt w S R T) (hb : Below w.heap.size w w') : TableAt w' S R T := h.keep (fun b hs => hb.block b (h.lt b hs)) (fun b hs => hb.block b (h.ltR b hs)) hb.size
theorem TableAt.chg {S' : Nat → Prop} (h : TableAt w S R T) (hb : Chg S' w w') (hn : ∀ b, S b → ¬ S' b) (hr : ∀ b, R b → ¬ S' b) : TableAt w' S R T := h.keep (fun b hs => hb.block b (h.lt b hs) (hn b hs)) (fun b hs => hb.block b (h.ltR b hs) (hr b hs)) hb.size
theorem TableAt.drewN (h : TableAt w S R T) (n : Nat) : TableAt (w.drewN n) S R T := h.keep (fun _ _ => rfl) (fun _ _ => rfl) (Nat.le_refl _)
end

theorem Workers_any (w : World) (S R : Nat → Prop) (T : TS) (h : TableAt w S R T) : Calls Try.prog 15 #[.pointer (some ⟨T.bt, 0, none⟩)] w fun e w' => e = .returned (.int .i64 T.work.length) ∧ w = w' := by
  have c2 := h.c2
  clear h
  go_enter Try.func15, Try.ntmps15
  go_wp2
  go_ret
  exact ⟨rfl, rfl⟩

/-- The worker's number: outside, all is done. -/
theorem Done_out (w : World) (S R : Nat → Prop) (T : TS) (h : TableAt w S R T) (i : Int) (hi : i < 0 ∨ (T.work.length : Int) ≤ i) : Calls Try.prog 17 #[.pointer (some ⟨T.bt, 0, none⟩), .int .i64 i] w fun e w' => e = .returned (.bool true) ∧ ∃ n, w' = w.drewN n := by
  have H := Lib.hid h
  clear h
  by_cases h0 : i < 0
  · have b0 : decide (i < 0) = true := by simpa using h0
    clear hi h0
    go_enter Try.func17, Try.ntmps17
    go_wp2_with fail
    go_quiet (fail)
    go_wp2
    go_ret
    exact ⟨rfl, nq, rfl⟩
  · have b0 : decide (i < 0) = false := by simpa using h0
    have b1 : decide ((T.work.length : Int) ≤ i) = true := by simp; omega
    clear hi h0
    go_enter Try.func17, Try.ntmps17
    go_wp2_with fail
    go_quiet ((go_at_call 15; exact Calls.quiet_of_same ((Workers_any _ _ _ _ (H.out.drewN _)).mono fun _ _ ⟨he, hw⟩ => ⟨he, hw.symm⟩)))
    go_wp2
    go_ret
    exact ⟨rfl, nq, rfl⟩

/-- A worker that there is. -/
theorem Done_in (w : World) (S R : Nat → Prop) (T : TS) (h : TableAt w S R T) (i k : Nat) (asks : List Ask) (hi : T.work[i]? = some asks) (hk : T.at_[i]? = some k) :
    Calls Try.prog 17 #[.pointer (some ⟨T.bt, 0, none⟩), .int .i64 i] w fun e w' => e = .returned (.bool (decide (k = asks.length))) ∧ ∃ n, w' = w.drewN n := by
  have H := Lib.hid h
  have hil : i < T.work.length := (List.getElem?_eq_some_iff.1 hi).1
  have hal : i < T.at_.length := (List.getElem?_eq_some_iff.1 hk).1
  have hw := h.len_w
  have b0 : decide ((i : Int) < 0) = false := by simp
  have b1 : decide (T.work.length ≤ i) = false := by simp; omega
  have b2 : (0 : Int) ≤ (i : Int) := by omega
  have b3 : (i : Int) < (T.work.length : Int) := by omega
  have b4 : (i : Int) < (T.at_.length : Int) := by omega
  have c3 := h.c3
  have c2 := h.c2
  have ca := h.at_cell hk
  obtain ⟨A, c, cw, _, _⟩ := h.wrk_cell hi
  clear h hi hk
  go_enter Try.func17, Try.ntmps17
  go_wp2_with fail
  go_quiet ((go_at_call 15; exact Calls.quiet_of_same ((Workers_any _ _ _ _ (H.out.drewN _)).mono fun _ _ ⟨he, hw⟩ => ⟨he, hw.symm⟩)))
  go_wp2
  go_ret
  exact ⟨ret_bool (beq_cast k asks.length), nq, rfl⟩

set_option maxHeartbeats 1000000 in
theorem ask_in (w : World) (S R : Nat → Prop) (T : TS) (h : TableAt w S R T) (i k : Nat) (asks : List Ask) (a : Ask) (hi : T.work[i]? = some asks) (hk : T.at_[i]? = some k) (ha : asks[k]? = some a) :
    Calls Try.prog 42 #[.pointer (some ⟨T.bt, 0, none⟩), .int .i64 i] w fun e w' => e = .returned (.agg #[.int .i64 a.kind, .string a.key, .int .i64 a.value]) ∧ Below w.heap.size w w' := by
  have hil : i < T.work.length := (List.getElem?_eq_some_iff.1 hi).1
  have hal : i < T.at_.length := (List.getElem?_eq_some_iff.1 hk).1
  have hkl : k < asks.length := (List.getElem?_eq_some_iff.1 ha).1
  have hw := h.len_w
  have hla := h.len_a i asks hi
  have b2 : (0 : Int) ≤ (i : Int) := by omega
  have b3 : (i : Int) < (T.work.length : Int) := by omega
  have b4 : (i : Int) < (T.at_.length : Int) := by omega
  have b5 : (0 : Int) ≤ (k : Int) := by omega
  have b6 : (k : Int) < (asks.length : Int) := by omega
  have c3 := h.c3
  have c2 := h.c2
  have ca := h.at_cell hk
  obtain ⟨A, c, cw, hcap, hrow⟩ := h.wrk_cell hi
  obtain ⟨b, off, rfl, hSb, hbl, d0, d1, d2⟩ := hrow k a ha
  have n1 := h.lt _ h.s_bt
  have n2 := h.ltR _ h.r_bw
  have n3 := h.lt _ h.s_ba
  clear h hi hk ha hrow
  go_enter Try.func42, Try.ntmps42
  go_wp2_with fail
  go_region_held3 (fun w' => w'.cell? ⟨T.bt, 2, none⟩ = some (.slice (some ⟨T.bw, 0, none⟩) T.work.length T.wcap) ∧ w'.cell? ⟨T.bt, 3, none⟩ = some (.slice (some ⟨T.ba, 0, none⟩) T.at_.length T.at_.length) ∧ w'.cell? ⟨T.ba, i, none⟩ = some (.int .i64 k)
    ∧ w'.cell? ⟨T.bw, i, none⟩ = some (.slice (some ⟨b, off, none⟩) asks.length c) ∧ w'.cell? ⟨b, off + k * 3, none⟩ = some (.int .i64 a.kind) ∧ w'.cell? ⟨b, off + k * 3 + 1, none⟩ = some (.string a.key) ∧ w'.cell? ⟨b, off + k * 3 + 2, none⟩ = some (.int .i64 a.value)) (simp [go_sem, *]) (fail)
  go_wp2_with fail
  refine bodyPost_ret (v := .agg #[.int .i64 a.kind, .string a.key, .int .i64 a.value]) (by simp [results, Try.results42, go_sem, *]) rfl ⟨rfl, (by (repeat (first | with_reducible exact Below.refl _ _ | (with_reducible refine bl_drew ?_) | (with_reducible refine bl_drewN ?_) | (with_reducible refine bl_alloc ?_ ?_; (focus (first | omega | (simp; done) | (simp; omega)))) | (with_reducible refine bl_set ?_ ?_; (focus (first | omega | (simp; done) | (simp; omega)))) | (with_reducible refine bl_trans ?_ (by assumption) ?_; (focus (first | omega | (simp; done) | (simp; omega)))))))⟩
end Go.Proofs.Ytimkoepaeebleaa
