/- shard.New: what comes of the calls that are handed in. -/
import Derived.Test.YtimkoepaeebleaaShClz
import Derived.Test.YtimkoepaeebleaaOrd
import Derived.Carry
import Derived.Laws.OwnMore
namespace Go.Proofs.Ytimkoepaeebleaa
set_option linter.unusedVariables false
open Go.RowKit

/-- The rows of asks that are handed in: n of them, at bW. -/
def WorkRow (w : World) (bW oW : Nat) (work : List (List Ask)) : Prop := ∀ i asks, work[i]? = some asks →
  ∃ A c, w.cell? ⟨bW, oW + i, none⟩ = some (.slice A asks.length c) ∧ asks.length ≤ c ∧ AskRow w (fun _ => True) A asks
def askBad (a : Ask) : Bool := decide (a.kind < 1) || decide (3 < a.kind) || (!decide (a.kind = 1) && !decide (a.value = 0))
/-- How many calls there are. -/
def total (work : List (List Ask)) : Nat := (work.map List.length).sum
/-- What shard.New says. -/
def newErr (shards : Int) (work : List (List Ask)) : Int :=
  if shards < 1 ∨ 256 < shards ∨ work.length < 1 ∨ 64 < work.length then 1
  else if 1024 < total work then 3
  else if work.any (fun l => l.any askBad) then 270 else 0
theorem total_take (work : List (List Ask)) (j : Nat) (l : List Ask) (h : work[j]? = some l) : total (work.take (j + 1)) = total (work.take j) + l.length := by
  unfold total
  rw [List.take_add_one, h]
  simp
theorem total_le (work : List (List Ask)) (j : Nat) : total (work.take j) ≤ total work := by
  have e : total work = total (work.take j) + total (work.drop j) := by
    unfold total
    rw [← List.sum_append, ← List.map_append, List.take_append_drop]
  omega

theorem made_ints {w w0 : World} {n : Nat} {xs : List Value} (h : w0.ownsRow w.heap.size 3 1 (.slice (some ⟨w.heap.size, 0, none⟩) n n) n xs) (hg : w.grownBy w0 none) (hn : 0 < n) :
    ∃ arr, Blk w0 w.heap.size 3 arr ∧ arr.toList = xs ∧ Below w.heap.size w w0 := by
  rcases h.2 with ⟨h0, _⟩ | ⟨g, cap, cur, hv, _, hh, _, _, hs, ht⟩
  · cases h0
  · simp only [Value.slice.injEq, Option.some.injEq, Addr.mk.injEq] at hv
    obtain ⟨⟨rfl, _⟩, _, hc⟩ := hv
    refine ⟨cur, hh, ?_, (Below.refl _ _).grown hg (Nat.le_refl _) (fun k h => by cases h)⟩
    rw [← ht, List.take_of_length_le (by rw [Array.length_toList, hs, ← hc]; exact Nat.le_refl _)]
/-- The table that shard.New makes, behind i rounds. -/
structure NewAt (w w0 wx : World) (shards : Nat) (work : List (List Ask)) (i : Nat) (v : Value) (xs : List Value) : Prop where
  below : Below w.heap.size w wx
  size : w0.heap.size + 4 ≤ wx.heap.size
  tab : Blk wx (w0.heap.size + 3) 66 #[.pointer none, .int .i64 shards, v, .slice (some ⟨w.heap.size, 0, none⟩) work.length work.length, .map (some w0.heap.size), .map (some (w0.heap.size + 1)), .map (some (w0.heap.size + 2)), .slice none 0 0, .int .i64 0]
  at_ : wx.heap[w.heap.size]? = w0.heap[w.heap.size]?
  m1 : wx.heap[w0.heap.size]? = some (.map #[] 0)
  m2 : wx.heap[w0.heap.size + 1]? = some (.map #[] 0)
  m3 : wx.heap[w0.heap.size + 2]? = some (.map #[] 0)
  own : wx.ownsRow (w0.heap.size + 4) 71 1 v i xs
  rows : ∀ (k : Nat) (asks : List Ask), k < i → work[k]? = some asks → ∃ A c, xs[k]? = some (.slice A asks.length c) ∧ asks.length ≤ c ∧ AskRow wx (fun b => w0.heap.size + 4 ≤ b ∧ b < wx.heap.size ∧ v.ownBlock ≠ some b) A asks
theorem NewAt.keep {w w0 wx wy : World} {shards : Nat} {work : List (List Ask)} {i : Nat} {v : Value} {xs : List Value} (h : NewAt w w0 wx shards work i v xs) (hw : w.heap.size < w0.heap.size) (hb : Below wx.heap.size wx wy) : NewAt w w0 wy shards work i v xs :=
  have hz := h.size
  have hz2 := hb.size
  { below := h.below.trans (hb.mono h.below.size)
    size := by omega
    tab := bk_below hb (by omega) h.tab
    at_ := (hb.block _ (by omega)).trans h.at_
    m1 := (hb.block _ (by omega)).trans h.m1
    m2 := (hb.block _ (by omega)).trans h.m2
    m3 := (hb.block _ (by omega)).trans h.m3
    own := own_below h.own hb
    rows := fun k asks hk hw => by
      obtain ⟨A, c, h1, h2, h3⟩ := h.rows k asks hk hw
      exact ⟨A, c, h1, h2, h3.keep (fun b hb1 hb2 => hb.block b hb2) (fun b ⟨h4, h5, h6⟩ => ⟨h4, by omega, h6⟩) hb.size⟩ }
theorem infoInt : (Try.prog.info? 3).map (fun i => (i.zero, i.size, i.bytes)) = some (some (.int .i64 0), 1, 8) := by kernel_rfl
theorem newAt_start (w w0 : World) (shards : Nat) (work : List (List Ask)) (hs0 : w.heap.size < w0.heap.size) (hb0 : Below w.heap.size w w0) (wx : World)
    (hx : wx = (((w0.alloc (.map #[] 0)).alloc (.map #[] 0)).alloc (.map #[] 0)).alloc (.cells #[.pointer none, .int .i64 shards, .slice none 0 0, .slice (some ⟨w.heap.size, 0, none⟩) work.length work.length, .map (some w0.heap.size), .map (some (w0.heap.size + 1)), .map (some (w0.heap.size + 1 + 1)), .slice none 0 0, .int .i64 0] 66)) :
    NewAt w w0 wx shards work 0 (.slice none 0 0) [] := by
  have hb : Below w0.heap.size w0 wx := by rw [hx]; (repeat (first | with_reducible exact Below.refl _ _ | (with_reducible refine bl_drew ?_) | (with_reducible refine bl_drewN ?_) | (with_reducible refine bl_alloc ?_ ?_; (focus (first | omega | (simp; done) | (simp; omega)))) | (with_reducible refine bl_set ?_ ?_; (focus (first | omega | (simp; done) | (simp; omega)))) | (with_reducible refine bl_trans ?_ (by assumption) ?_; (focus (first | omega | (simp; done) | (simp; omega))))))
  subst hx
  have e1 : ∀ (W : World) (o : Obj), (W.alloc o).heap[W.heap.size]? = some o := fun W o => heap_alloc_new W o
  have e2 : ∀ (W : World) (o : Obj) (k : Nat), k < W.heap.size → (W.alloc o).heap[k]? = W.heap[k]? := fun W o k hk => Below.heap_alloc W o k hk
  have ez : ∀ (W : World) (o : Obj), (W.alloc o).heap.size = W.heap.size + 1 := fun W o => by simp
  refine ⟨(hb0.trans (hb.mono hb0.size)), by simp only [ez]; omega, ?_, hb.block _ hs0, ?_, ?_, ?_, by simp [World.ownsRow], fun k asks hk _ => by omega⟩
  · refine bk_eq (bk_new ?_) rfl
    simp only [ez]
  · rw [e2 _ _ _ (by simp only [ez]; omega), e2 _ _ _ (by simp only [ez]; omega), e2 _ _ _ (by simp only [ez]; omega), e1]
  · rw [e2 _ _ _ (by simp only [ez]; omega), e2 _ _ _ (by simp only [ez]; omega)]
    have := e1 (w0.alloc (.map #[] 0)) (.map #[] 0)
    rwa [ez] at this
  · rw [e2 _ _ _ (by simp only [ez]; omega)]
    have := e1 ((w0.alloc (.map #[] 0)).alloc (.map #[] 0)) (.map #[] 0)
    rwa [ez, ez] at this
theorem newAt_push {w w0 wr wa w3 : World} {shards : Nat} {work : List (List Ask)} {i : Nat} {v v' : Value} {xs : List Value} {asks : List Ask} {Ac : Option Addr} {cc g : Nat} (hN : NewAt w w0 wr shards work i v xs) (hs0 : w.heap.size < w0.heap.size)
    (hi : work[i]? = some asks) (hcc : asks.length ≤ cc) (hb : Below wr.heap.size wr wa) (hrow : AskRow wa (fun b => wr.heap.size ≤ b ∧ b < wa.heap.size ∧ ∃ cur, Blk wa b 70 cur) Ac asks)
    (hown : w3.ownsRow (w0.heap.size + 4) 71 1 v' (i + 1) (xs ++ [.slice Ac asks.length cc])) (hv' : v'.ownBlock = some g) (hC : Chg (fun b => v.ownBlock = some b) wa w3)
    (hat : v.ownBlock = some g ∨ wa.heap.size ≤ g) (w4 : World) (h4 : w4 = w3.setCell ⟨w0.heap.size + 3, 2, none⟩ v') : NewAt w w0 w4 shards work (i + 1) v' (xs ++ [.slice Ac asks.length cc]) := by
  have hz := hN.size
  have hz1 := hb.size
  have hz2 := hC.size
  have hvb : ∀ b, v.ownBlock = some b → w0.heap.size + 4 ≤ b := fun b h => (hN.own.lt b h).1
  have hgb : w0.heap.size + 4 ≤ g := by rcases hat with h | h; exact hvb g h; omega
  have hvl : ∀ b, v.ownBlock = some b → b < wr.heap.size := fun b h => own_lt hN.own b h
  have hsz : w4.heap.size = w3.heap.size := by rw [h4]; simp [World.setCell]
  have k4 : ∀ b, b ≠ w0.heap.size + 3 → w4.heap[b]? = w3.heap[b]? := fun b hn => by rw [h4]; exact Below.heap_setCell _ _ _ _ hn
  have k1 : ∀ b, b < wr.heap.size → v.ownBlock ≠ some b → b ≠ w0.heap.size + 3 → w4.heap[b]? = wr.heap[b]? := fun b h1 h2 h3 => (k4 b h3).trans ((hC.block b (by omega) h2).trans (hb.block b h1))
  have k2 : ∀ b, b < w0.heap.size + 4 → b ≠ w0.heap.size + 3 → w4.heap[b]? = wr.heap[b]? := fun b h1 h2 => k1 b (by omega) (fun h => by have := hvb b h; omega) h2
  refine ⟨?_, by omega, ?_, (k2 _ (by omega) (by omega)).trans hN.at_, (k2 _ (by omega) (by omega)).trans hN.m1, (k2 _ (by omega) (by omega)).trans hN.m2, (k2 _ (by omega) (by omega)).trans hN.m3, ?_, ?_⟩
  · have hbw := hN.below
    rw [h4]
    refine ⟨hC.os.trans (hb.os.trans hbw.os), hC.tape.trans (hb.tape.trans hbw.tape), hC.output.trans (hb.output.trans hbw.output), by rw [← h4, hsz]; have := hbw.size; omega, fun k hk => ?_⟩
    rw [← h4]
    exact (k2 k (by omega) (by omega)).trans (hbw.block k hk)
  · rw [h4]
    refine bk_eq (bk_set (bk_chg hC (fun h => by have := hvb _ h; omega) (bk_below hb (by omega) hN.tab))) rfl
  · refine own_keep hown fun b hb => ?_
    have := (hown.lt b hb).1
    exact k4 b (by omega)
  · intro k asks' hk hw
    have hlen : xs.length = i := by
      have := hN.own.1
      simpa using this
    rcases Nat.lt_or_ge k i with hki | hki
    · obtain ⟨A, c, h1, h2, h3⟩ := hN.rows k asks' hki hw
      refine ⟨A, c, by rw [List.getElem?_append_left (by omega)]; exact h1, h2, h3.keep (fun b ⟨h5, _, h6⟩ hb2 => k1 b hb2 h6 (by omega)) (fun b ⟨h5, h6, h7⟩ => ⟨h5, by omega, fun hg => ?_⟩) (by omega)⟩
      rw [hv'] at hg
      obtain rfl := Option.some.inj hg
      rcases hat with h | h
      · exact h7 h
      · omega
    · obtain rfl : k = i := by omega
      rw [hi] at hw
      obtain rfl := Option.some.inj hw
      refine ⟨Ac, cc, by rw [List.getElem?_append_right (by omega), hlen]; simp, hcc, hrow.keep (fun b ⟨h5, h6, _⟩ hb2 => (k4 b (by omega)).trans (hC.block b h6 (fun h => by have := hvl b h; omega))) (fun b ⟨h5, h6, cur, h7⟩ => ⟨by omega, by omega, fun hg => ?_⟩) (by omega)⟩
      rw [hv'] at hg
      obtain rfl := Option.some.inj hg
      rcases hat with h | h
      · have := hvl _ h; omega
      · omega
theorem askRow_lt {w : World} {n : Nat} {asks : List Ask} {A : Option Addr} (h : AskRow w (fun b => n ≤ b ∧ ∃ cur, Blk w b 70 cur) A asks) : AskRow w (fun b => n ≤ b ∧ b < w.heap.size ∧ ∃ cur, Blk w b 70 cur) A asks := by
  intro k a hk
  obtain ⟨b, off, h1, ⟨h2, h2'⟩, h3, r⟩ := h k a hk
  exact ⟨b, off, h1, ⟨h2, h3, h2'⟩, h3, r⟩
theorem lt_of_cell {w : World} {b o : Nat} {v : Value} (h : w.cell? ⟨b, o, none⟩ = some v) : b < w.heap.size := by
  rcases Nat.lt_or_ge b w.heap.size with h1 | h1
  · exact h1
  · simp [World.cell?, Array.getElem?_eq_none h1] at h

/-- A table that was just made. -/
structure Fresh (T : TS) (shards : Nat) (wk : List (List Ask)) : Prop where
  nsh : T.nsh = shards
  mst : T.mst = 0
  own : T.own = List.replicate shards (-1)
  work : T.work = wk
  at_ : T.at_ = List.replicate wk.length 0
  hands : T.hands = []
  values : T.values = []
  told : T.told = []
  past : T.past = []
  pv : T.pv = .slice none 0 0
  steps : T.steps = 0
def NewGood (w : World) (shards : Nat) (work : List (List Ask)) (e : Ending) (w' : World) : Prop :=
  ∃ S R T, e = .returned (.tuple #[.pointer (some ⟨T.bt, 0, none⟩), .int .i64 0]) ∧ TableAt w' S R T ∧ Fresh T shards work ∧ Below w.heap.size w w' ∧ (∀ b, S b → w.heap.size ≤ b) ∧ (∀ b, R b → w.heap.size ≤ b)

theorem mapAt_empty {α β : Type} [DecidableEq α] {enc : α → Value} {ev : β → Value} {w : World} {b : Nat} (h : w.heap[b]? = some (.map #[] 0)) : MapAt w b enc ev ([] : List (α × β)) :=
  ⟨#[], 0, h, rfl, List.Pairwise.nil, by simp, by simp⟩

theorem newAt_table {w w0 wx wz : World} {shards : Nat} {work : List (List Ask)} {v : Value} {xs : List Value} {arr0 : Array Value} {lk ck c : Nat} (hN : NewAt w w0 wx shards work work.length v xs) (hs0 : w.heap.size < w0.heap.size)
    (hA : Blk w0 w.heap.size 3 arr0) (hA2 : arr0.toList = List.replicate work.length (.int .i64 0)) (hb : Below wx.heap.size wx wz) (hM : MemAt wz lk ck shards c 0 (List.replicate shards (-1))) (hl : wx.heap.size ≤ lk) (hc : wx.heap.size ≤ ck)
    (h1 : 1 ≤ shards) (h2 : shards ≤ 256) (h3 : 1 ≤ work.length) (h4 : work.length ≤ 64) (h5 : ∀ (i : Nat) (asks : List Ask), work[i]? = some asks → asks.length ≤ 1024) (h6 : ∀ (i : Nat) (asks : List Ask), work[i]? = some asks → ∀ a ∈ asks, a.key.size ≤ 1048576)
    (w4 : World) (hw4 : w4 = wz.setCell ⟨w0.heap.size + 3, 0, none⟩ (.pointer (some ⟨lk, 0, none⟩))) : NewGood w shards work (.returned (.tuple #[.pointer (some ⟨w0.heap.size + 3, 0, none⟩), .int .i64 0])) w4 := by
  have hz := hN.size
  have hz1 := hb.size
  have hsz : w4.heap.size = wz.heap.size := by rw [hw4]; simp [World.setCell]
  have k4 : ∀ b, b ≠ w0.heap.size + 3 → w4.heap[b]? = wz.heap[b]? := fun b hn => by rw [hw4]; exact Below.heap_setCell _ _ _ _ hn
  have k1 : ∀ b, b < wx.heap.size → b ≠ w0.heap.size + 3 → w4.heap[b]? = wx.heap[b]? := fun b h1 h2 => (k4 b h2).trans (hb.block b h1)
  have hxlen : xs.length = work.length := by have := hN.own.1; simpa using this
  obtain ⟨hlk, harr⟩ : lk < wz.heap.size ∧ ck < wz.heap.size := ⟨hM.lkb.lt, by obtain ⟨arr, h, _⟩ := hM.ckb; exact h.lt⟩
  rcases hN.own.2 with ⟨_, h0⟩ | ⟨bw, cap, cur, rfl, hbw, hcur, hcap, _, hcs, htk⟩
  · omega
  have hbwl := lt_of_heap hcur
  refine ⟨fun b => b = w0.heap.size + 3 ∨ b = lk ∨ b = ck ∨ b = w.heap.size ∨ b = w0.heap.size ∨ b = w0.heap.size + 1 ∨ b = w0.heap.size + 2, fun b => w0.heap.size + 4 ≤ b ∧ b < wx.heap.size,
    ⟨w0.heap.size + 3, lk, ck, bw, w.heap.size, w0.heap.size, w0.heap.size + 1, w0.heap.size + 2, cap, c, .slice none 0 0, shards, 0, List.replicate shards (-1), work, List.replicate work.length 0, [], [], [], [], 0⟩, rfl, ?_, ⟨rfl, rfl, rfl, rfl, rfl, rfl, rfl, rfl, rfl, rfl, rfl⟩, ?_, ?_, ?_⟩
  · constructor
    · rw [hw4]
      refine bk_eq (bk_set (bk_below hb (by omega) hN.tab)) ?_
      simp
    · exact hM.keep (k4 lk (by omega)) (k4 ck (by omega))
    · refine ⟨cur, (k1 bw hbwl (by omega)).trans hcur, fun i asks hi => ?_⟩
      have hil : i < work.length := (List.getElem?_eq_some_iff.1 hi).1
      obtain ⟨A, c', hx, hc', hrow⟩ := hN.rows i asks hil hi
      refine ⟨A, c', ?_, hc', hrow.keep (fun b ⟨h7, h8, _⟩ _ => k1 b h8 (by omega)) (fun b ⟨h7, h8, _⟩ => ⟨h7, h8⟩) (by omega)⟩
      rw [← htk, List.getElem?_take, if_pos (by omega)] at hx
      simpa using hx
    · refine bk_eq ((k1 (w.heap.size) (by omega) (by omega)).trans (hN.at_.trans hA)) ?_
      apply Array.toList_inj.1
      rw [hA2]
      simp
    · exact mapAt_empty ((k1 (w0.heap.size) (by omega) (by omega)).trans hN.m1)
    · intro p hp; cases hp
    · exact mapAt_empty ((k1 (w0.heap.size + 1) (by omega) (by omega)).trans hN.m2)
    · exact mapAt_empty ((k1 (w0.heap.size + 2) (by omega) (by omega)).trans hN.m3)
    · simp [World.ownsRow]
    all_goals first
      | (intro b hb'; simp only at hb'; omega)
      | (intro p hp; cases hp; done)
      | (intro b hb'; cases hb'; done)
      | (simp; done)
      | (simp; omega)
      | exact h5
      | exact h6
      | skip
  · rw [hw4]
    exact (hN.below.trans (hb.mono hN.below.size)).setCell (by show w.heap.size ≤ w0.heap.size + 3; omega) _
  · intro b hb'
    have := hN.below.size
    rcases hb' with rfl | rfl | rfl | rfl | rfl | rfl | rfl <;> omega
  · intro b hb'
    have := hb'.1
    omega
theorem askBad_no {a : Ask} (h : askBad a = false) : decide (a.kind < 1) = false ∧ decide (3 < a.kind) = false ∧ (a.kind = 1 ∨ a.value = 0) := by
  unfold askBad at h
  simp at h
  simp
  omega
theorem askBad_yes {a : Ask} (h : askBad a = true) : a.kind < 1 ∨ 3 < a.kind ∨ (a.kind ≠ 1 ∧ a.value ≠ 0) := by
  unfold askBad at h
  simp at h
  omega
/-- The word for what New leaves that finds a fault. -/
def NewBad (w : World) (err : Int) (e : Ending) (w' : World) : Prop := e = .returned (.tuple #[.pointer none, .int .i64 err]) ∧ Below w.heap.size w w'
def NewAll (w : World) (shards : Nat) (work : List (List Ask)) (e : Ending) (w' : World) : Prop :=
  (work.any (fun l => l.any askBad) = true → NewBad w 270 e w') ∧ (work.any (fun l => l.any askBad) = false → NewGood w shards work e w')
theorem newAll_bad {w w' : World} {shards : Nat} {work : List (List Ask)} (h : work.any (fun l => l.any askBad) = true) (hb : Below w.heap.size w w') : NewAll w shards work (.returned (.tuple #[.pointer none, .int .i64 270])) w' :=
  ⟨fun _ => ⟨rfl, hb⟩, fun h' => by rw [h] at h'; cases h'⟩
theorem newAll_good {w w' : World} {shards : Nat} {work : List (List Ask)} {e : Ending} (h : work.any (fun l => l.any askBad) = false) (hg : NewGood w shards work e w') : NewAll w shards work e w' :=
  ⟨fun h' => (by rw [h] at h'; cases h'), fun _ => hg⟩
set_option maxRecDepth 100000 in
set_option maxHeartbeats 1000000 in
theorem New_any (w : World) (shards bW oW cW : Nat) (work : List (List Ask)) (hs : 1 ≤ shards) (hs2 : shards ≤ 256) (hw : 1 ≤ work.length) (hw2 : work.length ≤ 64) (ht : total work ≤ 1024) (hk : ∀ l ∈ work, ∀ a ∈ l, a.key.size ≤ 1048576) (h : WorkRow w bW oW work) :
    Calls Try.prog 13 #[.int .i64 shards, .slice (some ⟨bW, oW, none⟩) work.length cW] w (NewAll w shards work) := by
  have HK := Lib.hid hk
  clear hk
  have b1 : decide ((shards : Int) < 1) = false := by simp; omega
  have b2 : decide ((256 : Int) < shards) = false := by simp; omega
  have b3 : decide ((work.length : Int) < 1) = false := by simp; omega
  have b4 : decide ((64 : Int) < work.length) = false := by simp; omega
  have H := Lib.hid h
  have hmm := @run_makeMap Try.prog
  clear h
  go_enter Try.func13, Try.ntmps13
  go_wp2_with fail
  go_loopw [6, 8, 34] (fun left _ s wr => ∃ (j : Nat), s = .int .i64 j ∧ left = .int .i64 (1024 - (total (work.take j) : Int)) ∧ j ≤ work.length ∧ wr = w) (fun _ _ s _ => work.length - (intOf s).toNat)
  case atStart => exact ⟨0, rfl, by simp [total], by omega, rfl⟩
  case round =>
    obtain ⟨j, rfl, rfl, hjn, e⟩ := hrel
    obtain rfl := e.symm
    clear e
    by_cases hlt : j < work.length
    · have d1 : decide ((j : Int) < (work.length : Int)) = true := by simp; omega
      have q1 : (0 : Int) ≤ (j : Int) := by omega
      have q2 : (j : Int) < (work.length : Int) := by omega
      obtain ⟨l, hl⟩ : ∃ l, work[j]? = some l := ⟨work[j], List.getElem?_eq_getElem hlt⟩
      obtain ⟨A, c, hc, _, _⟩ := H.out j l hl
      have ht1 := total_take work j l hl
      have ht2 := total_le work (j + 1)
      have d2 : decide ((1024 - (total (work.take j) : Int)) < (l.length : Int)) = false := by simp; omega
      have HT := Lib.hid ht1
      clear hl ht1
      have w1 : wrap64 (1024 - (total (work.take j) : Int) - (l.length : Int)) = 1024 - (total (work.take (j + 1)) : Int) := by have e := HT.out; unfold wrap64; omega
      have W1 := Lib.hid w1
      clear w1
      go_wp2_with fail
      refine ⟨⟨j + 1, by simp, by rw [W1.out], by omega, trivial⟩, by simp [intOf]; omega⟩
    · have d1 : decide ((j : Int) < (work.length : Int)) = false := by simp; omega
      obtain ⟨i0, hi, hz0, hz1, hz2⟩ := info_parts infoInt
      go_wp2_with (at_make; refine wpList_make_full _ rfl _ _ 62 rfl w.heap.size 3 i0 _ 1 Try.underlying62 hi hz0 hz1 .i64 .i64 _ _ work.length rfl rfl (by first | rfl | omega) (by first | rfl | omega) (by rw [hz2]; omega) (by unfold maxLen; omega) (Nat.le_refl _) ?_; intro w0 hown0 hgrow0)
      obtain ⟨arr0, hA0, hsz0, hb0⟩ := made_ints hown0 hgrow0 (by omega)
      have hs0 : w.heap.size < w0.heap.size := hA0.lt
      clear hown0 hgrow0
      have HA0 := Lib.hid (And.intro hA0 (hsz0.trans (show _ = List.replicate work.length (Value.int .i64 0) by rw [Nat.mul_one]; exact toList_madeCells_one _ _)))
      clear hA0 hsz0
      go_loopw [11, 13, 58, 64] (fun _ _ s _ wx => ∃ (i : Nat) (v : Value) (xs : List Value), s = .int .i64 i ∧ i ≤ work.length ∧ NewAt w w0 wx shards work i v xs ∧ (work.take i).any (fun l => l.any askBad) = false)
        (fun _ _ s _ _ => work.length - (intOf s).toNat)
      case atStart => exact ⟨0, .slice none 0 0, [], rfl, by omega, newAt_start w w0 shards work hs0 hb0 _ rfl, by simp⟩
      case round =>
        obtain ⟨i, v, xs, rfl, hin, hN, hgd⟩ := hrel
        obtain ⟨wx, hwx⟩ : ∃ wx : World, wx = wr := ⟨_, rfl⟩
        obtain rfl := hwx
        have HN := Lib.hid hN
        have HG := Lib.hid hgd
        have hbx := hN.below
        have hzx := hN.size
        clear hN hgd
        by_cases hlti : i < work.length
        · have d3 : decide ((i : Int) < (work.length : Int)) = true := by simp; omega
          have q3 : (0 : Int) ≤ (i : Int) := by omega
          have q4 : (i : Int) < (work.length : Int) := by omega
          obtain ⟨asks, hi⟩ : ∃ l, work[i]? = some l := ⟨work[i], List.getElem?_eq_getElem hlti⟩
          obtain ⟨A, c, hc, hcl, hrow⟩ := H.out i asks hi
          have hbW : bW < w.heap.size := lt_of_cell hc
          have hc1 : wx.cell? ⟨bW, oW + i, none⟩ = some (.slice A asks.length c) := (hbx.cell (p := ⟨bW, oW + i, none⟩) hbW).trans hc
          have hla : asks.length ≤ 1024 := by
            have := total_take work i asks hi
            have := total_le work (i + 1)
            omega
          have HI := Lib.hid hi
          have HR := Lib.hid hrow
          clear hc hi hrow
          go_wp2_with fail
          go_loopw [13, 64] (fun _ s wy => ∃ (m : Nat), s = .int .i64 m ∧ m ≤ asks.length ∧ Below wx.heap.size wx wy ∧ (asks.take m).any askBad = false) (fun _ s _ => asks.length - (intOf s).toNat)
          case atStart => exact ⟨0, rfl, by omega, Below.refl _ _, by simp⟩
          case round =>
            obtain ⟨m, rfl, hmn, hby, hga⟩ := hrel
            have HGA := Lib.hid hga
            clear hga
            by_cases hltm : m < asks.length
            · have d4 : decide ((m : Int) < (asks.length : Int)) = true := by simp; omega
              have q5 : (0 : Int) ≤ (m : Int) := by omega
              have q6 : (m : Int) < (asks.length : Int) := by omega
              obtain ⟨a, ha⟩ : ∃ a, asks[m]? = some a := ⟨asks[m], List.getElem?_eq_getElem hltm⟩
              obtain ⟨ba, off, rfl, _, hba, g0, g1, g2⟩ := HR.out m a ha
              have hzy := hby.size
              have hbw : Below w.heap.size w wr := hbx.trans (hby.mono hbx.size)
              have e0 := (hbw.cell (p := ⟨ba, off + m * 3, none⟩) hba).trans g0
              have e1 := (hbw.cell (p := ⟨ba, off + m * 3 + 1, none⟩) hba).trans g1
              have e2 := (hbw.cell (p := ⟨ba, off + m * 3 + 2, none⟩) hba).trans g2
              have HA1 := Lib.hid ha
              clear g0 g1 g2 ha
              cases hbd : askBad a with
              | false =>
                have hga2 : (asks.take (m + 1)).any askBad = false := by
                  rw [List.take_add_one, HA1.out, List.any_append, HGA.out]
                  simp [hbd]
                have HG2 := Lib.hid hga2
                obtain ⟨k1, k2, k3⟩ := askBad_no hbd
                clear hbw hga2 hbd
                by_cases hk : a.kind = 1
                · have k4 : (a.kind != 1) = false := by simpa using hk
                  clear hk k3
                  go_wp2_with fail
                  go_roundw
                  case rel => exact ⟨m + 1, by simp, by omega, (by (repeat (first | with_reducible exact Below.refl _ _ | (with_reducible refine bl_drew ?_) | (with_reducible refine bl_drewN ?_) | (with_reducible refine bl_alloc ?_ ?_; (focus (first | omega | (simp; done) | (simp; omega)))) | (with_reducible refine bl_set ?_ ?_; (focus (first | omega | (simp; done) | (simp; omega)))) | (with_reducible refine bl_trans ?_ (by assumption) ?_; (focus (first | omega | (simp; done) | (simp; omega))))))), HG2.out⟩
                  case measure => simp [intOf]; omega
                · have k4 : (a.kind != 1) = true := by simpa using hk
                  have k5 : (a.value != 0) = false := by simp; omega
                  clear hk k3
                  go_wp2_with fail
                  go_roundw
                  case rel => exact ⟨m + 1, by simp, by omega, (by (repeat (first | with_reducible exact Below.refl _ _ | (with_reducible refine bl_drew ?_) | (with_reducible refine bl_drewN ?_) | (with_reducible refine bl_alloc ?_ ?_; (focus (first | omega | (simp; done) | (simp; omega)))) | (with_reducible refine bl_set ?_ ?_; (focus (first | omega | (simp; done) | (simp; omega)))) | (with_reducible refine bl_trans ?_ (by assumption) ?_; (focus (first | omega | (simp; done) | (simp; omega))))))), HG2.out⟩
                  case measure => simp [intOf]; omega
              | true =>
                have hany : work.any (fun l => l.any askBad) = true := List.any_eq_true.2 ⟨asks, List.mem_of_getElem? HI.out, List.any_eq_true.2 ⟨a, List.mem_of_getElem? HA1.out, hbd⟩⟩
                have HBad := Lib.hid hany
                have hk3 := askBad_yes hbd
                clear hany hbd
                by_cases k1 : a.kind < 1
                · have k1' : decide (a.kind < 1) = true := by simpa using k1
                  clear k1 hk3
                  go_wp2_with fail
                  refine bodyPost_ret (v := .tuple #[.pointer none, .int .i64 270]) (by simp [results, Try.results13, go_sem, *]) rfl (newAll_bad HBad.out (by (repeat (first | with_reducible exact Below.refl _ _ | (with_reducible refine bl_drew ?_) | (with_reducible refine bl_drewN ?_) | (with_reducible refine bl_alloc ?_ ?_; (focus (first | omega | (simp; done) | (simp; omega)))) | (with_reducible refine bl_set ?_ ?_; (focus (first | omega | (simp; done) | (simp; omega)))) | (with_reducible refine bl_trans ?_ (by assumption) ?_; (focus (first | omega | (simp; done) | (simp; omega))))))))
                by_cases k2 : 3 < a.kind
                · have k1' : decide (a.kind < 1) = false := by simpa using k1
                  have k2' : decide (3 < a.kind) = true := by simpa using k2
                  clear k1 k2 hk3
                  go_wp2_with fail
                  refine bodyPost_ret (v := .tuple #[.pointer none, .int .i64 270]) (by simp [results, Try.results13, go_sem, *]) rfl (newAll_bad HBad.out (by (repeat (first | with_reducible exact Below.refl _ _ | (with_reducible refine bl_drew ?_) | (with_reducible refine bl_drewN ?_) | (with_reducible refine bl_alloc ?_ ?_; (focus (first | omega | (simp; done) | (simp; omega)))) | (with_reducible refine bl_set ?_ ?_; (focus (first | omega | (simp; done) | (simp; omega)))) | (with_reducible refine bl_trans ?_ (by assumption) ?_; (focus (first | omega | (simp; done) | (simp; omega))))))))
                · have k1' : decide (a.kind < 1) = false := by simpa using k1
                  have k2' : decide (3 < a.kind) = false := by simpa using k2
                  have k4 : (a.kind != 1) = true := by simp; omega
                  have k5 : (a.value != 0) = true := by simp; omega
                  clear k1 k2 hk3
                  go_wp2_with fail
                  refine bodyPost_ret (v := .tuple #[.pointer none, .int .i64 270]) (by simp [results, Try.results13, go_sem, *]) rfl (newAll_bad HBad.out (by (repeat (first | with_reducible exact Below.refl _ _ | (with_reducible refine bl_drew ?_) | (with_reducible refine bl_drewN ?_) | (with_reducible refine bl_alloc ?_ ?_; (focus (first | omega | (simp; done) | (simp; omega)))) | (with_reducible refine bl_set ?_ ?_; (focus (first | omega | (simp; done) | (simp; omega)))) | (with_reducible refine bl_trans ?_ (by assumption) ?_; (focus (first | omega | (simp; done) | (simp; omega))))))))
            · have d4 : decide ((m : Int) < (asks.length : Int)) = false := by simp; omega
              have HN1 := Lib.hid (HN.out.keep hs0 hby)
              have hgn : (work.take (i + 1)).any (fun l => l.any askBad) = false := by
                have h1 := HGA.out
                rw [show m = asks.length by omega, List.take_length] at h1
                rw [List.take_add_one, HI.out, List.any_append, HG.out]
                simp [h1]
              have HGN := Lib.hid hgn
              clear hgn
              obtain ⟨A', c', hv⟩ := own_form HN1.out.own
              have hO1 := HN1.out.own
              have t2 : wr.cell? ⟨w0.heap.size + 3, 2, none⟩ = some v := by have := HN1.out.tab.cell 2; simpa using this
              rw [hv] at t2
              rw [hv] at hO1
              have HV := Lib.hid hv
              have q7 : ¬ (Value.slice A' i c').ownBlock = some (w0.heap.size + 3) := fun hb => by have := (hO1.lt _ hb).1; omega
              have q8 : w0.heap.size + 4 ≤ wr.heap.size := HN1.out.size
              have HO1 := Lib.hid hO1
              have hbw : Below w.heap.size w wr := hbx.trans (hby.mono hbx.size)
              have HRr := Lib.hid (fun W (hb : Below wr.heap.size wr W) => CloneAsks W (fun _ => True) A c asks (HR.out.keep (w' := W) (fun b _ hb2 => ((hb.block b (by have := hbw.size; omega)).trans (hbw.block b hb2))) (fun _ h => h) (by have := hbw.size; have := hb.size; omega)) (by omega))
              clear hO1 hv hby
              go_wp2_with fail
              refine wp_region_rows (S := (fun w' => w'.cell? ⟨w0.heap.size + 3, 2, none⟩ = some (.slice A' i c'))) [1,1,1,1,2,1,0,0,0,1,1,3] [0,1,2,3,4,5,6,7,8,9,10,11] (by kernel_rfl) (by kernel_rfl) (by kernel_rfl) (fun _ _ d _ _ h => by cases d <;> exact h) ?_ (fun hHeld => ?_)
              · ((first | (simp [go_sem, *]; done) | ((repeat' apply And.intro) <;> (first | (simp [go_sem, *]; done) | ((repeat (first | with_reducible assumption | (with_reducible apply keepD) | (with_reducible apply keepDN) | (with_reducible apply keepDf) | (with_reducible apply keepDNf) | (with_reducible refine keepA ?_ ?_; (focus (first | assumption | omega | (simp; done) | (simp; omega)))) | (with_reducible refine keepAf ?_ ?_; (focus (first | assumption | omega | (simp; done) | (simp; omega)))) | (with_reducible refine keepS ?_ ?_; (focus (first | assumption | omega | (simp; done) | (simp; omega) | (simp [*]; done)))) | (with_reducible apply keepSf) | (with_reducible refine keep1 (by assumption) ?_ ?_; (focus (first | assumption | omega | (simp; done) | (simp; omega)))) | (with_reducible refine keep1f (by assumption) ?_ ?_; (focus (first | assumption | omega | (simp; done) | (simp; omega)))) | (with_reducible refine keep2 (by assumption) ?_ ?_ ?_; (focus (first | assumption | omega | (simp; done) | (simp; omega))); (focus (first | assumption | omega | (simp; done) | (simp; omega) | (simp [*]; done)))) | (with_reducible refine keep2f (by assumption) ?_ ?_ ?_; (focus (first | assumption | omega | (simp; done) | (simp; omega))); (focus (first | assumption | omega | (simp; done) | (simp; omega) | (simp [*]; done)))))); done) | ((repeat (first | with_reducible assumption | (with_reducible apply keepD) | (with_reducible apply keepDN) | (with_reducible apply keepDf) | (with_reducible apply keepDNf) | (with_reducible refine keepA ?_ ?_; (focus (first | assumption | omega | (simp; done) | (simp; omega)))) | (with_reducible refine keepAf ?_ ?_; (focus (first | assumption | omega | (simp; done) | (simp; omega)))) | (with_reducible refine keepS ?_ ?_; (focus (first | assumption | omega | (simp; done) | (simp; omega) | (simp [*]; done)))) | (with_reducible apply keepSf) | (with_reducible refine keep1 (by assumption) ?_ ?_; (focus (first | assumption | omega | (simp; done) | (simp; omega)))) | (with_reducible refine keep1f (by assumption) ?_ ?_; (focus (first | assumption | omega | (simp; done) | (simp; omega)))) | (with_reducible refine keep2 (by assumption) ?_ ?_ ?_; (focus (first | assumption | omega | (simp; done) | (simp; omega))); (focus (first | assumption | omega | (simp; done) | (simp; omega) | (simp [*]; done)))) | (with_reducible refine keep2f (by assumption) ?_ ?_ ?_; (focus (first | assumption | omega | (simp; done) | (simp; omega))); (focus (first | assumption | omega | (simp; done) | (simp; omega) | (simp [*]; done)))))); simp [go_sem, *]; done)))))
              simp only [rowsOf, List.map_cons, List.map_nil, nth, nthK]
              repeat (first | (refine' row_pure rfl (fun W => ?_) ?_; rotate_left; (focus (go_simp; first | done | with_reducible rfl)); (try simp only [Act.put, List.setIfInBounds_toArray, List.set_cons_zero, List.set_cons_succ])) | (refine' row_load rfl hHeld (fun W hW => ?_) ?_; rotate_left; (focus ((try dsimp only at hW); go_simp; first | done | with_reducible rfl)); (try simp only [Act.put, List.setIfInBounds_toArray, List.set_cons_zero, List.set_cons_succ])) | (first | refine row_skip1 rfl ?_ | refine row_skip2 rfl hHeld ?_ | refine row_skip3 rfl ?_ | refine row_skip0 rfl hHeld ?_; (try simp only [Act.put, List.setIfInBounds_toArray, List.set_cons_zero, List.set_cons_succ])))
              refine row_write rfl (fun K hK => ?_)
              go_simp
              go_at_call 34
              refine (HRr.out _ (by (repeat (first | with_reducible exact Below.refl _ _ | (with_reducible refine bl_drew ?_) | (with_reducible refine bl_drewN ?_) | (with_reducible refine bl_alloc ?_ ?_; (focus (first | omega | (simp; done) | (simp; omega)))) | (with_reducible refine bl_set ?_ ?_; (focus (first | omega | (simp; done) | (simp; omega)))) | (with_reducible refine bl_trans ?_ (by assumption) ?_; (focus (first | omega | (simp; done) | (simp; omega)))))))).mono ?_
              rintro e w2 ⟨Ac, cc, rfl, hcc, hrow, hb2⟩
              have hz2 := hb2.size
              simp at hz2
              refine hK _ _ ?_ (fun hHeld => ?_)
              · ((first | (simp [go_sem, *]; done) | ((repeat' apply And.intro) <;> (first | (simp [go_sem, *]; done) | ((repeat (first | with_reducible assumption | (with_reducible apply keepD) | (with_reducible apply keepDN) | (with_reducible apply keepDf) | (with_reducible apply keepDNf) | (with_reducible refine keepA ?_ ?_; (focus (first | assumption | omega | (simp; done) | (simp; omega)))) | (with_reducible refine keepAf ?_ ?_; (focus (first | assumption | omega | (simp; done) | (simp; omega)))) | (with_reducible refine keepS ?_ ?_; (focus (first | assumption | omega | (simp; done) | (simp; omega) | (simp [*]; done)))) | (with_reducible apply keepSf) | (with_reducible refine keep1 (by assumption) ?_ ?_; (focus (first | assumption | omega | (simp; done) | (simp; omega)))) | (with_reducible refine keep1f (by assumption) ?_ ?_; (focus (first | assumption | omega | (simp; done) | (simp; omega)))) | (with_reducible refine keep2 (by assumption) ?_ ?_ ?_; (focus (first | assumption | omega | (simp; done) | (simp; omega))); (focus (first | assumption | omega | (simp; done) | (simp; omega) | (simp [*]; done)))) | (with_reducible refine keep2f (by assumption) ?_ ?_ ?_; (focus (first | assumption | omega | (simp; done) | (simp; omega))); (focus (first | assumption | omega | (simp; done) | (simp; omega) | (simp [*]; done)))))); done) | ((repeat (first | with_reducible assumption | (with_reducible apply keepD) | (with_reducible apply keepDN) | (with_reducible apply keepDf) | (with_reducible apply keepDNf) | (with_reducible refine keepA ?_ ?_; (focus (first | assumption | omega | (simp; done) | (simp; omega)))) | (with_reducible refine keepAf ?_ ?_; (focus (first | assumption | omega | (simp; done) | (simp; omega)))) | (with_reducible refine keepS ?_ ?_; (focus (first | assumption | omega | (simp; done) | (simp; omega) | (simp [*]; done)))) | (with_reducible apply keepSf) | (with_reducible refine keep1 (by assumption) ?_ ?_; (focus (first | assumption | omega | (simp; done) | (simp; omega)))) | (with_reducible refine keep1f (by assumption) ?_ ?_; (focus (first | assumption | omega | (simp; done) | (simp; omega)))) | (with_reducible refine keep2 (by assumption) ?_ ?_ ?_; (focus (first | assumption | omega | (simp; done) | (simp; omega))); (focus (first | assumption | omega | (simp; done) | (simp; omega) | (simp [*]; done)))) | (with_reducible refine keep2f (by assumption) ?_ ?_ ?_; (focus (first | assumption | omega | (simp; done) | (simp; omega))); (focus (first | assumption | omega | (simp; done) | (simp; omega) | (simp [*]; done)))))); simp [go_sem, *]; done)))))
              clear hK K
              (try simp only [Act.put, List.setIfInBounds_toArray, List.set_cons_zero, List.set_cons_succ])
              (refine row_write rfl (fun K hK => ?_); go_simp; refine hK _ _ ?_ (fun hHeld => ?_); (focus (((first | (simp [go_sem, *]; done) | ((repeat' apply And.intro) <;> (first | (simp [go_sem, *]; done) | ((repeat (first | with_reducible assumption | (with_reducible apply keepD) | (with_reducible apply keepDN) | (with_reducible apply keepDf) | (with_reducible apply keepDNf) | (with_reducible refine keepA ?_ ?_; (focus (first | assumption | omega | (simp; done) | (simp; omega)))) | (with_reducible refine keepAf ?_ ?_; (focus (first | assumption | omega | (simp; done) | (simp; omega)))) | (with_reducible refine keepS ?_ ?_; (focus (first | assumption | omega | (simp; done) | (simp; omega) | (simp [*]; done)))) | (with_reducible apply keepSf) | (with_reducible refine keep1 (by assumption) ?_ ?_; (focus (first | assumption | omega | (simp; done) | (simp; omega)))) | (with_reducible refine keep1f (by assumption) ?_ ?_; (focus (first | assumption | omega | (simp; done) | (simp; omega)))) | (with_reducible refine keep2 (by assumption) ?_ ?_ ?_; (focus (first | assumption | omega | (simp; done) | (simp; omega))); (focus (first | assumption | omega | (simp; done) | (simp; omega) | (simp [*]; done)))) | (with_reducible refine keep2f (by assumption) ?_ ?_ ?_; (focus (first | assumption | omega | (simp; done) | (simp; omega))); (focus (first | assumption | omega | (simp; done) | (simp; omega) | (simp [*]; done)))))); done) | ((repeat (first | with_reducible assumption | (with_reducible apply keepD) | (with_reducible apply keepDN) | (with_reducible apply keepDf) | (with_reducible apply keepDNf) | (with_reducible refine keepA ?_ ?_; (focus (first | assumption | omega | (simp; done) | (simp; omega)))) | (with_reducible refine keepAf ?_ ?_; (focus (first | assumption | omega | (simp; done) | (simp; omega)))) | (with_reducible refine keepS ?_ ?_; (focus (first | assumption | omega | (simp; done) | (simp; omega) | (simp [*]; done)))) | (with_reducible apply keepSf) | (with_reducible refine keep1 (by assumption) ?_ ?_; (focus (first | assumption | omega | (simp; done) | (simp; omega)))) | (with_reducible refine keep1f (by assumption) ?_ ?_; (focus (first | assumption | omega | (simp; done) | (simp; omega)))) | (with_reducible refine keep2 (by assumption) ?_ ?_ ?_; (focus (first | assumption | omega | (simp; done) | (simp; omega))); (focus (first | assumption | omega | (simp; done) | (simp; omega) | (simp [*]; done)))) | (with_reducible refine keep2f (by assumption) ?_ ?_ ?_; (focus (first | assumption | omega | (simp; done) | (simp; omega))); (focus (first | assumption | omega | (simp; done) | (simp; omega) | (simp [*]; done)))))); simp [go_sem, *]; done))))))); clear hK K; (try simp only [Act.put, List.setIfInBounds_toArray, List.set_cons_zero, List.set_cons_succ]))
              refine row_write rfl (fun K hK => ?_)
              refine wp_push (.tmp 91) (.tmp 94) 27 rfl 71 Try.underlying27 1 24 (by kernel_rfl) (by omega) (w0.heap.size + 4) (.slice A' i c') i _ rfl (own_below HO1.out (by (repeat (first | with_reducible exact Below.refl _ _ | (with_reducible refine bl_drew ?_) | (with_reducible refine bl_drewN ?_) | (with_reducible refine bl_alloc ?_ ?_; (focus (first | omega | (simp; done) | (simp; omega)))) | (with_reducible refine bl_set ?_ ?_; (focus (first | omega | (simp; done) | (simp; omega)))) | (with_reducible refine bl_trans ?_ (by assumption) ?_; (focus (first | omega | (simp; done) | (simp; omega)))))))) w2.heap.size 1 #[.slice Ac asks.length cc] 71 rfl (by first | exact bk_new rfl | exact bk_drew (bk_new rfl)) rfl (by intro u hu; simp at hu; subst hu; rfl) (by omega) (by omega) (by simp; omega) ?_
              intro g' cap w3 hown3 hC3 hat3 hlt3
              have hz3 := hC3.size
              simp at hz3
              refine hK _ _ ?_ (fun hHeld => ?_)
              · ((first | (simp [go_sem, *]; done) | ((repeat' apply And.intro) <;> (first | (simp [go_sem, *]; done) | ((repeat (first | with_reducible assumption | (with_reducible apply keepD) | (with_reducible apply keepDN) | (with_reducible apply keepDf) | (with_reducible apply keepDNf) | (with_reducible refine keepA ?_ ?_; (focus (first | assumption | omega | (simp; done) | (simp; omega)))) | (with_reducible refine keepAf ?_ ?_; (focus (first | assumption | omega | (simp; done) | (simp; omega)))) | (with_reducible refine keepS ?_ ?_; (focus (first | assumption | omega | (simp; done) | (simp; omega) | (simp [*]; done)))) | (with_reducible apply keepSf) | (with_reducible refine keep1 (by assumption) ?_ ?_; (focus (first | assumption | omega | (simp; done) | (simp; omega)))) | (with_reducible refine keep1f (by assumption) ?_ ?_; (focus (first | assumption | omega | (simp; done) | (simp; omega)))) | (with_reducible refine keep2 (by assumption) ?_ ?_ ?_; (focus (first | assumption | omega | (simp; done) | (simp; omega))); (focus (first | assumption | omega | (simp; done) | (simp; omega) | (simp [*]; done)))) | (with_reducible refine keep2f (by assumption) ?_ ?_ ?_; (focus (first | assumption | omega | (simp; done) | (simp; omega))); (focus (first | assumption | omega | (simp; done) | (simp; omega) | (simp [*]; done)))))); done) | ((repeat (first | with_reducible assumption | (with_reducible apply keepD) | (with_reducible apply keepDN) | (with_reducible apply keepDf) | (with_reducible apply keepDNf) | (with_reducible refine keepA ?_ ?_; (focus (first | assumption | omega | (simp; done) | (simp; omega)))) | (with_reducible refine keepAf ?_ ?_; (focus (first | assumption | omega | (simp; done) | (simp; omega)))) | (with_reducible refine keepS ?_ ?_; (focus (first | assumption | omega | (simp; done) | (simp; omega) | (simp [*]; done)))) | (with_reducible apply keepSf) | (with_reducible refine keep1 (by assumption) ?_ ?_; (focus (first | assumption | omega | (simp; done) | (simp; omega)))) | (with_reducible refine keep1f (by assumption) ?_ ?_; (focus (first | assumption | omega | (simp; done) | (simp; omega)))) | (with_reducible refine keep2 (by assumption) ?_ ?_ ?_; (focus (first | assumption | omega | (simp; done) | (simp; omega))); (focus (first | assumption | omega | (simp; done) | (simp; omega) | (simp [*]; done)))) | (with_reducible refine keep2f (by assumption) ?_ ?_ ?_; (focus (first | assumption | omega | (simp; done) | (simp; omega))); (focus (first | assumption | omega | (simp; done) | (simp; omega) | (simp [*]; done)))))); simp [go_sem, *]; done)))))
              clear hK K
              (try simp only [Act.put, List.setIfInBounds_toArray, List.set_cons_zero, List.set_cons_succ])
              repeat (first | (refine' row_pure rfl (fun W => ?_) ?_; rotate_left; (focus (go_simp; first | done | with_reducible rfl)); (try simp only [Act.put, List.setIfInBounds_toArray, List.set_cons_zero, List.set_cons_succ])) | (refine' row_load rfl hHeld (fun W hW => ?_) ?_; rotate_left; (focus ((try dsimp only at hW); go_simp; first | done | with_reducible rfl)); (try simp only [Act.put, List.setIfInBounds_toArray, List.set_cons_zero, List.set_cons_succ])) | (first | refine row_skip1 rfl ?_ | refine row_skip2 rfl hHeld ?_ | refine row_skip3 rfl ?_ | refine row_skip0 rfl hHeld ?_; (try simp only [Act.put, List.setIfInBounds_toArray, List.set_cons_zero, List.set_cons_succ])))
              have HN4 := newAt_push HN1.out hs0 HI.out hcc (wa := w2.alloc (.cells #[.slice Ac asks.length cc] 71)) (w3 := w3) (by (repeat (first | with_reducible exact Below.refl _ _ | (with_reducible refine bl_drew ?_) | (with_reducible refine bl_drewN ?_) | (with_reducible refine bl_alloc ?_ ?_; (focus (first | omega | (simp; done) | (simp; omega)))) | (with_reducible refine bl_set ?_ ?_; (focus (first | omega | (simp; done) | (simp; omega)))) | (with_reducible refine bl_trans ?_ (by assumption) ?_; (focus (first | omega | (simp; done) | (simp; omega))))))) ((askRow_lt hrow).keep (fun b _ h => Below.heap_alloc _ _ _ h) (fun b h => ⟨h.1, by have := h.2.1; simp; omega, h.2.2.imp fun cur hc => bk_alloc hc⟩) (by simp)) hown3 rfl (HV.out ▸ hC3) (HV.out ▸ hat3) _ rfl
              have HN4' := Lib.hid HN4
              obtain ⟨csx, hT1⟩ : ∃ cs, Blk wr (w0.heap.size + 3) 66 cs := ⟨_, HN1.out.tab⟩
              have B2 : Blk w2 (w0.heap.size + 3) 66 csx := by repeat (first | with_reducible exact hT1 | (with_reducible apply bk_drew) | (with_reducible apply bk_drewN) | (with_reducible apply bk_alloc) | (with_reducible apply bk_set) | (with_reducible apply bk_far; (focus (first | assumption | omega | (simp; done) | (simp; omega)))) | (with_reducible apply bk_below; (focus assumption); (focus (first | assumption | omega | (simp; done) | (simp; omega)))))
              have B3 := Lib.hid (bk_chg hC3 q7 (bk_alloc B2))
              have f1 : w3.frozen? ⟨w0.heap.size + 1 + 1 + 1, 2, none⟩ = false := B3.out.free 2
              clear B2 hT1
              clear HN4 HO1 HRr HV hown3 hC3 hat3 hrow
              (refine row_last rfl (fun K hK => ?_); go_simp; refine hK _ _ ?_; clear hK K; (try simp only [Act.put, List.setIfInBounds_toArray, List.set_cons_zero, List.set_cons_succ]))
              refine row_done ?_
              go_simp
              go_wp2_with fail
              go_roundw
              case rel => exact ⟨i + 1, .slice (some ⟨g', 0, none⟩) (i + 1) cap, _, by simp, by omega, HN4'.out, HGN.out⟩
              case measure => simp [intOf]; omega
        · have d3 : decide ((i : Int) < (work.length : Int)) = false := by simp; omega
          obtain rfl : i = work.length := by omega
          go_wp2_with fail
          (go_at_call 35; refine (Make_lock _).mono ?_; rintro e w2 ⟨rfl, hb_w2⟩; obtain ⟨hc_w2, hf_w2⟩ := bcell hb_w2; have hz_w2 := hb_w2.size; try simp at hz_w2)
          have HRp := Lib.hid (Repeat_lock ((w2.alloc (.cells (lockC (-1)).toArray 74)).alloc (.cells (lockC (-1)).toArray 74)) (w2.heap.size + 1) shards 74 hs hs2 (bk_new (by simp)))
          go_wp2_with fail
          refine HRp.out.mono ?_
          rintro e w3 ⟨g, rfl, hR3, hb3, hg3⟩
          have HR3 := Lib.hid (cellsNew w3 g shards hs hs2 hR3)
          have hz3 := hb3.size
          simp at hz3
          clear HRp hR3
          go_wp2_with fail
          refine HR3.out.mono ?_
          rintro e w5 ⟨lk, ck, c, rfl, hM5, hb5, hl5, hc5⟩
          have hz5 := hb5.size
          have hbz : Below wx.heap.size wx w5 := (by (repeat (first | with_reducible exact Below.refl _ _ | (with_reducible refine bl_drew ?_) | (with_reducible refine bl_drewN ?_) | (with_reducible refine bl_alloc ?_ ?_; (focus (first | omega | (simp; done) | (simp; omega)))) | (with_reducible refine bl_set ?_ ?_; (focus (first | omega | (simp; done) | (simp; omega)))) | (with_reducible refine bl_trans ?_ (by assumption) ?_; (focus (first | omega | (simp; done) | (simp; omega)))))))
          have HT := Lib.hid (newAt_table HN.out hs0 HA0.out.1 HA0.out.2 hbz hM5 (by omega) (by omega) hs hs2 hw hw2 (fun i asks hi => by
            have := total_take work i asks hi
            have := total_le work (i + 1)
            omega) (fun i asks hi a ha => HK.out asks (List.mem_of_getElem? hi) a ha) _ rfl)
          have hno : work.any (fun l => l.any askBad) = false := by have := HG.out; rwa [List.take_length] at this
          have HNo := Lib.hid hno
          clear hno
          have B3 := Lib.hid (bk_below hbz (by omega) HN.out.tab)
          have f1 : w5.frozen? ⟨w0.heap.size + 1 + 1 + 1, 0, none⟩ = false := B3.out.free 0
          have f2 : w5.cell? ⟨w0.heap.size + 1 + 1 + 1, 0, none⟩ = some (.pointer none) := by have := B3.out.cell 0; simpa using this
          clear hM5 HR3
          go_wp2_with fail
          refine bodyPost_ret (v := .tuple #[.pointer (some ⟨w0.heap.size + 3, 0, none⟩), .int .i64 0]) (by simp [results, Try.results13, go_sem, *]) rfl (newAll_good HNo.out HT.out)
end Go.Proofs.Ytimkoepaeebleaa
