/- What all parts use: frames of worlds, blocks that are known whole, maps as lists of pairs. -/
import Derived.Test.YtimkoepaeebleaaProg
import Derived.WalkKit
import Derived.Outline
import Derived.Lib.Hide
import Derived.WalkLawsBesides
import Derived.WalkSpells
import Derived.Deep.QuietTactic
import Derived.BigQuiet
import Derived.Deep.RegionHeld3
import Derived.Deep.AppendLies
import Derived.Maps.Keyed
import Derived.Deep.DrawnRows
namespace Go.Proofs.Ytimkoepaeebleaa
open Go.RowKit Go.MapKept

theorem ret_int {k : IntKind} {a b : Int} (h : a = b) : Ending.returned (.int k a) = .returned (.int k b) := by rw [h]
theorem ret_bool {a b : Bool} (h : a = b) : Ending.returned (.bool a) = .returned (.bool b) := by rw [h]
theorem val_int {k : IntKind} {a b : Int} (h : a = b) : Value.int k a = .int k b := by rw [h]

/-! ### Frames -/
theorem bl_drew {B : Nat} {a w : World} (h : Below B a w) : Below B a w.drew := h.drew
theorem bl_drewN {B : Nat} {a w : World} {n : Nat} (h : Below B a w) : Below B a (w.drewN n) := ⟨h.os, h.tape, h.output, h.size, h.block⟩
theorem bl_alloc {B : Nat} {a w : World} {o : Obj} (hB : B ≤ w.heap.size) (h : Below B a w) : Below B a (w.alloc o) := h.alloc hB o
theorem bl_set {B : Nat} {a w : World} {p : Addr} {u : Value} (hp : B ≤ p.block) (h : Below B a w) : Below B a (w.setCell p u) := h.setCell hp u
theorem bl_trans {B B' : Nat} {a b c : World} (hB : B ≤ B') (k : Below B' b c) (h : Below B a b) : Below B a c := h.trans (k.mono hB)
theorem bcell {W w1 : World} (hb : Below W.heap.size W w1) : (∀ b o, b < W.heap.size → w1.cell? ⟨b, o, none⟩ = W.cell? ⟨b, o, none⟩) ∧ (∀ b o, b < W.heap.size → w1.frozen? ⟨b, o, none⟩ = W.frozen? ⟨b, o, none⟩) :=
  ⟨fun b o h => hb.cell (p := ⟨b, o, none⟩) h, fun b o h => hb.frozen (p := ⟨b, o, none⟩) h⟩

theorem keep1 {W w1 : World} {b o : Nat} {v : Option Value} (hb : Below W.heap.size W w1) (hl : b < W.heap.size) (h : W.cell? ⟨b, o, none⟩ = v) : w1.cell? ⟨b, o, none⟩ = v := (hb.cell (p := ⟨b, o, none⟩) hl).trans h

/-- Between two worlds only the blocks of S, and new ones, have turned. -/
structure Chg (S : Nat → Prop) (w w' : World) : Prop where
  os : w'.os = w.os
  tape : w'.tape = w.tape
  output : w'.output = w.output
  size : w.heap.size ≤ w'.heap.size
  block : ∀ k, k < w.heap.size → ¬ S k → w'.heap[k]? = w.heap[k]?
section
variable {S : Nat → Prop} {a w w' : World}
theorem Chg.refl (S : Nat → Prop) (w : World) : Chg S w w := ⟨rfl, rfl, rfl, Nat.le_refl _, fun _ _ _ => rfl⟩
theorem cg_drew (h : Chg S a w) : Chg S a w.drew := ⟨h.os, h.tape, h.output, h.size, h.block⟩
theorem cg_drewN {n : Nat} (h : Chg S a w) : Chg S a (w.drewN n) := ⟨h.os, h.tape, h.output, h.size, h.block⟩
theorem Chg.trans (h : Chg S a w) (k : Chg S w w') : Chg S a w' :=
  ⟨k.os.trans h.os, k.tape.trans h.tape, k.output.trans h.output, Nat.le_trans h.size k.size, fun i hi hn => (k.block i (Nat.lt_of_lt_of_le hi h.size) hn).trans (h.block i hi hn)⟩
/-- Two steps, the second one over other blocks: those that lay at the beginning are of S. -/
theorem Chg.then_ {S' : Nat → Prop} (h : Chg S a w) (k : Chg S' w w') (hs : ∀ i, i < a.heap.size → S' i → S i) : Chg S a w' :=
  ⟨k.os.trans h.os, k.tape.trans h.tape, k.output.trans h.output, Nat.le_trans h.size k.size, fun i hi hn => (k.block i (Nat.lt_of_lt_of_le hi h.size) fun hk => hn (hs i hi hk)).trans (h.block i hi hn)⟩
theorem cg_below (k : Below w.heap.size w w') (h : Chg S a w) : Chg S a w' :=
  h.trans ⟨k.os, k.tape, k.output, k.size, fun i hi _ => k.block i hi⟩
theorem cg_alloc {o : Obj} (h : Chg S a w) : Chg S a (w.alloc o) := cg_below ((Below.refl _ _).alloc (Nat.le_refl _) _) h
theorem cg_set {p : Addr} {u : Value} (hp : S p.block ∨ a.heap.size ≤ p.block) (h : Chg S a w) : Chg S a (w.setCell p u) :=
  ⟨h.os, h.tape, h.output, by simpa [World.setCell] using h.size, fun i hi hn => (Below.heap_setCell w p u i (by
    rintro rfl
    rcases hp with hp | hp
    · exact hn hp
    · omega)).trans (h.block i hi hn)⟩
theorem Chg.mono {S' : Nat → Prop} (h : Chg S a w) (hs : ∀ k, k < a.heap.size → S k → S' k) : Chg S' a w :=
  ⟨h.os, h.tape, h.output, h.size, fun i hi hn => h.block i hi fun hk => hn (hs i hi hk)⟩
theorem Chg.below (h : Chg (fun _ => False) a w) : Below a.heap.size a w := ⟨h.os, h.tape, h.output, h.size, fun k hk => h.block k hk (fun h => h)⟩
theorem Chg.of_below {B : Nat} (h : Below B a w) : Chg (fun b => B ≤ b) a w := ⟨h.os, h.tape, h.output, h.size, fun k _ hn => h.block k (by omega)⟩
theorem Chg.to_below {B : Nat} (h : Chg S a w) (hS : ∀ k, S k → B ≤ k) (hB : B ≤ a.heap.size) : Below B a w := ⟨h.os, h.tape, h.output, h.size, fun k hk => h.block k (by omega) (fun hs => by have := hS k hs; omega)⟩
theorem Chg.of_grown {row : Option Nat} (h : a.grownBy w row) : Chg (fun b => row = some b) a w := ⟨h.os, h.tape, h.output, h.size, fun k hk hn => h.block k hk (fun e => hn e.symm)⟩
theorem Chg.cell (h : Chg S a w) {p : Addr} (hp : p.block < a.heap.size) (hn : ¬ S p.block) : w.cell? p = a.cell? p := World.cell?_of_block (w := a) (h.block p.block hp hn)
theorem Chg.frozen (h : Chg S a w) {p : Addr} (hp : p.block < a.heap.size) (hn : ¬ S p.block) : w.frozen? p = a.frozen? p := World.frozen?_of_block (w := a) (h.block p.block hp hn)
end

theorem keep2 {S : Nat → Prop} {W w1 : World} {b o : Nat} {v : Option Value} (hb : Chg S W w1) (hl : b < W.heap.size) (hn : ¬ S b) (h : W.cell? ⟨b, o, none⟩ = v) : w1.cell? ⟨b, o, none⟩ = v := (hb.cell (p := ⟨b, o, none⟩) hl hn).trans h
theorem keep2f {S : Nat → Prop} {W w1 : World} {b o : Nat} {v : Bool} (hb : Chg S W w1) (hl : b < W.heap.size) (hn : ¬ S b) (h : W.frozen? ⟨b, o, none⟩ = v) : w1.frozen? ⟨b, o, none⟩ = v := (hb.frozen (p := ⟨b, o, none⟩) hl hn).trans h
theorem keep1f {W w1 : World} {b o : Nat} {v : Bool} (hb : Below W.heap.size W w1) (hl : b < W.heap.size) (h : W.frozen? ⟨b, o, none⟩ = v) : w1.frozen? ⟨b, o, none⟩ = v := (hb.frozen (p := ⟨b, o, none⟩) hl).trans h

theorem keepA {w : World} {ob : Obj} {b o : Nat} {v : Option Value} (hl : b < w.heap.size) (h : w.cell? ⟨b, o, none⟩ = v) : (w.alloc ob).cell? ⟨b, o, none⟩ = v := (World.cell?_alloc_lt (a := ⟨b, o, none⟩) w ob hl).trans h
theorem keepD {w : World} {b o : Nat} {v : Option Value} (h : w.cell? ⟨b, o, none⟩ = v) : w.drew.cell? ⟨b, o, none⟩ = v := h
theorem keepDN {w : World} {n b o : Nat} {v : Option Value} (h : w.cell? ⟨b, o, none⟩ = v) : (w.drewN n).cell? ⟨b, o, none⟩ = v := h
theorem keepS {w : World} {p : Addr} {u : Value} {b o : Nat} {v : Option Value} (hn : b ≠ p.block) (h : w.cell? ⟨b, o, none⟩ = v) : (w.setCell p u).cell? ⟨b, o, none⟩ = v :=
  (World.cell?_of_block (w := w) (a := ⟨b, o, none⟩) (Below.heap_setCell w p u b hn)).trans h
theorem keepAf {w : World} {ob : Obj} {b o : Nat} {v : Bool} (hl : b < w.heap.size) (h : w.frozen? ⟨b, o, none⟩ = v) : (w.alloc ob).frozen? ⟨b, o, none⟩ = v := (World.frozen?_of_block (w := w) (a := ⟨b, o, none⟩) (Below.heap_alloc w ob b hl)).trans h
theorem keepDf {w : World} {b o : Nat} {v : Bool} (h : w.frozen? ⟨b, o, none⟩ = v) : w.drew.frozen? ⟨b, o, none⟩ = v := h
theorem keepDNf {w : World} {n b o : Nat} {v : Bool} (h : w.frozen? ⟨b, o, none⟩ = v) : (w.drewN n).frozen? ⟨b, o, none⟩ = v := h
theorem keepSf {w : World} {p : Addr} {u : Value} {b o : Nat} {v : Bool} (h : w.frozen? ⟨b, o, none⟩ = v) : (w.setCell p u).frozen? ⟨b, o, none⟩ = v := (World.frozen?_setCell ..).trans h

/-! ### Blocks that are known whole -/
theorem cell_of_heap {w : World} {b i : Nat} {cs : Array Value} {t : TypeId} {f : Nat × Nat} (h : w.heap[b]? = some (.cells cs t f)) : w.cell? ⟨b, i, none⟩ = cs[i]? := cell_of_row w b i cs t f h
theorem free_of_heap {w : World} {b i : Nat} {cs : Array Value} {t : TypeId} (h : w.heap[b]? = some (.cells cs t (0, 0))) : w.frozen? ⟨b, i, none⟩ = false := by simp [World.frozen?, h]
theorem lt_of_heap {w : World} {b : Nat} {o : Obj} (h : w.heap[b]? = some o) : b < w.heap.size := (Array.getElem?_eq_some_iff.1 h).1
/-- Block g is just the cells cs, none of them frozen. -/
def Blk (w : World) (g : Nat) (t : TypeId) (cs : Array Value) : Prop := w.heap[g]? = some (.cells cs t (0, 0))
section
variable {w w' : World} {g : Nat} {t : TypeId} {cs : Array Value}
theorem Blk.lt (h : Blk w g t cs) : g < w.heap.size := lt_of_heap h
theorem Blk.cell (h : Blk w g t cs) (i : Nat) : w.cell? ⟨g, i, none⟩ = cs[i]? := cell_of_heap h
theorem Blk.free (h : Blk w g t cs) (i : Nat) : w.frozen? ⟨g, i, none⟩ = false := free_of_heap h
theorem bk_new {w : World} {t : TypeId} {cs : Array Value} {g : Nat} (hg : g = w.heap.size) : Blk (w.alloc (.cells cs t)) g t cs := by subst hg; exact heap_alloc_new w _
theorem bk_eq {cs' : Array Value} (h : Blk w g t cs') (e : cs' = cs) : Blk w g t cs := e ▸ h
theorem bk_drew (h : Blk w g t cs) : Blk w.drew g t cs := h
theorem bk_drewN {n : Nat} (h : Blk w g t cs) : Blk (w.drewN n) g t cs := h
theorem bk_alloc {o : Obj} (h : Blk w g t cs) : Blk (w.alloc o) g t cs := (Below.heap_alloc w o g h.lt).trans h
theorem bk_set {i : Nat} {u : Value} (h : Blk w g t cs) : Blk (w.setCell ⟨g, i, none⟩ u) g t (cs.setIfInBounds i u) := by
  unfold Blk at h ⊢
  simp [World.setCell, Array.getElem?_modify, h]
theorem bk_far {p : Addr} {u : Value} (hp : g ≠ p.block) (h : Blk w g t cs) : Blk (w.setCell p u) g t cs := (Below.heap_setCell w p u g hp).trans h
theorem bk_below {B : Nat} (hb : Below B w w') (hg : g < B) (h : Blk w g t cs) : Blk w' g t cs := (hb.block g hg).trans h
theorem bk_chg {S : Nat → Prop} (hb : Chg S w w') (hg : ¬ S g) (h : Blk w g t cs) : Blk w' g t cs := (hb.block g h.lt hg).trans h
theorem Blk.ne_ {g' : Nat} {t' : TypeId} {cs' : Array Value} (h : Blk w g t cs) (h' : Blk w g' t' cs') (hne : t ≠ t') : g ≠ g' := by
  rintro rfl
  unfold Blk at h h'
  rw [h] at h'
  injection h' with h'
  injection h' with _ ht
  exact hne ht
end

/-! ### Maps as lists of pairs -/
section
variable {α β : Type} [DecidableEq α]
def mget (M : List (α × β)) (a : α) : Option β := (M.find? (fun p => decide (p.1 = a))).map (·.2)
def mput (M : List (α × β)) (a : α) (x : β) : List (α × β) := if (mget M a).isSome then M.map (fun p => if p.1 = a then (a, x) else p) else M ++ [(a, x)]
def mdel (M : List (α × β)) (a : α) : List (α × β) := M.filter (fun p => decide (p.1 ≠ a))
theorem mget_nil (a : α) : mget ([] : List (α × β)) a = none := rfl
theorem mget_cons (p : α × β) (M : List (α × β)) (a : α) : mget (p :: M) a = if p.1 = a then some p.2 else mget M a := by
  unfold mget
  by_cases h : p.1 = a <;> simp [List.find?_cons, h]
theorem mget_append (M N : List (α × β)) (a : α) : mget (M ++ N) a = (mget M a).or (mget N a) := by
  unfold mget
  rw [List.find?_append]
  cases List.find? (fun p => decide (p.1 = a)) M <;> simp
theorem mget_map (M : List (α × β)) (a : α) (x : β) (b : α) : mget (M.map (fun p => if p.1 = a then (a, x) else p)) b = if a = b then (mget M a).map (fun _ => x) else mget M b := by
  induction M with
  | nil => simp [mget_nil]
  | cons p M ih =>
    rw [List.map_cons, mget_cons, mget_cons, mget_cons, ih]
    by_cases h : p.1 = a
    · subst h
      by_cases hb : p.1 = b
      · simp [hb]
      · simp [hb]
    · simp only [h, if_false]
      by_cases hb : p.1 = b
      · subst hb
        simp [Ne.symm h]
      · simp [hb]
theorem mget_put (M : List (α × β)) (a : α) (x : β) (b : α) : mget (mput M a x) b = if a = b then some x else mget M b := by
  unfold mput
  by_cases h : (mget M a).isSome
  · rw [if_pos h, mget_map]
    split
    · obtain ⟨y, hy⟩ := Option.isSome_iff_exists.1 h
      simp [hy]
    · rfl
  · rw [if_neg h, mget_append, mget_cons, mget_nil]
    by_cases hb : a = b
    · subst hb
      simp at h
      simp [h]
    · simp [hb]
theorem mget_del (M : List (α × β)) (a b : α) : mget (mdel M a) b = if a = b then none else mget M b := by
  unfold mdel
  induction M with
  | nil => simp [mget_nil]
  | cons p M ih =>
    rw [List.filter_cons, mget_cons]
    by_cases h : p.1 = a
    · subst h
      simp only [ne_eq, not_true_eq_false, decide_false, Bool.false_eq_true, if_false, ih]
      by_cases hb : p.1 = b <;> simp [hb]
    · simp only [ne_eq, h, not_false_eq_true, decide_true, if_true, mget_cons, ih]
      by_cases hb : p.1 = b
      · subst hb; simp [Ne.symm h]
      · simp [hb]
theorem mget_some_mem {M : List (α × β)} {a : α} {x : β} (h : mget M a = some x) : (a, x) ∈ M := by
  induction M with
  | nil => simp [mget_nil] at h
  | cons p M ih =>
    rw [mget_cons] at h
    by_cases hp : p.1 = a
    · rw [if_pos hp] at h
      obtain rfl := Option.some.inj h
      subst hp
      simp
    · rw [if_neg hp] at h
      exact List.mem_cons_of_mem _ (ih h)
theorem mget_none {M : List (α × β)} {a : α} (h : mget M a = none) : ∀ p ∈ M, p.1 ≠ a := by
  induction M with
  | nil => simp
  | cons p M ih =>
    rw [mget_cons] at h
    by_cases hp : p.1 = a
    · simp [hp] at h
    · rw [if_neg hp] at h
      intro q hq
      rcases List.mem_cons.1 hq with rfl | hq
      · exact hp
      · exact ih h q hq
def Apart (M : List (α × β)) : Prop := M.Pairwise (fun p q => p.1 ≠ q.1)
theorem mput_keys (M : List (α × β)) (a : α) (x : β) : (mput M a x).map (·.1) = if (mget M a).isSome then M.map (·.1) else M.map (·.1) ++ [a] := by
  unfold mput
  split
  · rw [List.map_map]
    refine List.map_congr_left fun p _ => ?_
    by_cases h : p.1 = a <;> simp [h]
  · simp
theorem apart_iff {α β : Type} (M : List (α × β)) : Apart M ↔ (M.map (·.1)).Nodup := by
  unfold Apart List.Nodup
  rw [List.pairwise_map]
theorem Apart.put {M : List (α × β)} (h : Apart M) (a : α) (x : β) : Apart (mput M a x) := by
  rw [apart_iff] at *
  rw [mput_keys]
  split
  · exact h
  · rename_i hn
    rw [List.nodup_append]
    refine ⟨h, by simp, ?_⟩
    intro b hb c hc
    obtain rfl := List.mem_singleton.1 hc
    obtain ⟨p, hp, rfl⟩ := List.mem_map.1 hb
    exact mget_none (by simpa using hn) p hp
theorem Apart.del {M : List (α × β)} (h : Apart M) (a : α) : Apart (mdel M a) := List.Pairwise.filter _ h

/-- How keys are told as values: keys of one plain kind, unlike ones told unlike. -/
structure KeyEnc (P : Program) (k : TypeId) (enc : α → Value) : Prop where
  kind : ∃ d, P.underlying k = some d ∧ ∀ a, IsKey d (enc a)
  inj : ∀ a b, enc a = enc b → a = b

/-- Block b is a map that holds the pairs M. -/
def MapAt (w : World) (b : Nat) (enc : α → Value) (ev : β → Value) (M : List (α × β)) : Prop :=
  ∃ es clock, w.heap[b]? = some (.map es clock) ∧ es.toList.map (fun e => (e.key, e.val)) = M.map (fun p => (enc p.1, ev p.2)) ∧ Apart M ∧ (∀ e ∈ es.toList, e.born < clock) ∧ (es.toList.map (·.born)).Nodup

variable {P : Program} {w w' : World} {b : Nat} {k t e : TypeId} {enc : α → Value} {ev : β → Value} {M : List (α × β)}
theorem MapAt.lt {α β : Type} {w : World} {b : Nat} {enc : α → Value} {ev : β → Value} {M : List (α × β)} (h : MapAt w b enc ev M) : b < w.heap.size := by obtain ⟨es, c, h, _⟩ := h; exact lt_of_heap h
theorem MapAt.apart {α β : Type} {w : World} {b : Nat} {enc : α → Value} {ev : β → Value} {M : List (α × β)} (h : MapAt w b enc ev M) : Apart M := by obtain ⟨_, _, _, _, h, _⟩ := h; exact h
theorem MapAt.keep {α β : Type} {w w' : World} {b : Nat} {enc : α → Value} {ev : β → Value} {M : List (α × β)} (h : MapAt w b enc ev M) (hk : w'.heap[b]? = w.heap[b]?) : MapAt w' b enc ev M := by
  obtain ⟨es, c, h, r⟩ := h
  exact ⟨es, c, hk.trans h, r⟩
theorem MapAt.chg {α β : Type} {w w' : World} {b : Nat} {enc : α → Value} {ev : β → Value} {M : List (α × β)} {S : Nat → Prop} (h : MapAt w b enc ev M) (hb : Chg S w w') (hn : ¬ S b) : MapAt w' b enc ev M := h.keep (hb.block b h.lt hn)
theorem MapAt.made {α β : Type} (w : World) (enc : α → Value) (ev : β → Value) : MapAt (w.alloc (.map #[] 0)) w.heap.size enc ev [] :=
  ⟨#[], 0, heap_alloc_new w _, rfl, List.Pairwise.nil, by simp, by simp⟩
theorem blk_ne_map {α β : Type} {w : World} {b : Nat} {enc : α → Value} {ev : β → Value} {M : List (α × β)} {t : TypeId} {cs : Array Value} {g : Nat} (h : Blk w g t cs) (h' : MapAt w b enc ev M) : g ≠ b := by
  rintro rfl
  obtain ⟨es, c, h', _⟩ := h'
  unfold Blk at h
  rw [h] at h'
  cases h'

theorem mget_of_entries : ∀ {es : List MapEntry} {M : List (α × β)}, es.map (fun e => (e.key, e.val)) = M.map (fun p => (enc p.1, ev p.2)) → (∀ a b, enc a = enc b → a = b) → ∀ (a : α),
    ((∀ x ∈ es, x.key ≠ enc a) → mget M a = none) ∧ (Apart M → ∀ (j : Nat) (e0 : MapEntry), es[j]? = some e0 → e0.key = enc a → ∃ x, mget M a = some x ∧ ev x = e0.val ∧ M[j]? = some (a, x))
  | [], [], _, _, _ => ⟨fun _ => rfl, fun _ _ _ h => by simp at h⟩
  | [], _ :: _, h, _, _ => by simp at h
  | _ :: _, [], h, _, _ => by simp at h
  | e1 :: es, p :: M, h, hi, a => by
    simp only [List.map_cons, List.cons.injEq, Prod.mk.injEq] at h
    obtain ⟨⟨hk, hv⟩, hr⟩ := h
    obtain ⟨ih1, ih2⟩ := mget_of_entries hr hi a
    rw [mget_cons]
    refine ⟨fun hn => ?_, fun hA j e0 hj he => ?_⟩
    · have h0 := hn e1 (by simp)
      rw [if_neg (fun hp => h0 (by rw [hk, hp]))]
      exact ih1 (fun x hx => hn x (List.mem_cons_of_mem _ hx))
    · have hA' := List.pairwise_cons.1 hA
      cases j with
      | zero =>
        obtain rfl : e1 = e0 := by simpa using hj
        have hp : p.1 = a := hi _ _ (hk.symm.trans he)
        refine ⟨p.2, by rw [if_pos hp], hv.symm, ?_⟩
        subst hp
        rfl
      | succ j =>
        obtain ⟨x, h1, h2, h3⟩ := ih2 hA'.2 j e0 (by simpa using hj) he
        have hp : p.1 ≠ a := fun hp => hA'.1 (a, x) (mget_some_mem h1) hp
        exact ⟨x, by rw [if_neg hp]; exact h1, h2, by simpa using h3⟩

theorem keys_of_entries {α β : Type} {enc : α → Value} {ev : β → Value} {M : List (α × β)} {es : List MapEntry} {d : TypeDesc} (hd : ∀ a, IsKey d (enc a)) (h : es.map (fun e => (e.key, e.val)) = M.map (fun p => (enc p.1, ev p.2))) : ∀ y ∈ es, IsKey d y.key := by
  intro y hy
  have : (y.key, y.val) ∈ es.map (fun e => (e.key, e.val)) := List.mem_map.2 ⟨y, hy, rfl⟩
  rw [h] at this
  obtain ⟨p, _, hp⟩ := List.mem_map.1 this
  have : enc p.1 = y.key := congrArg Prod.fst hp
  rw [← this]
  exact hd _

/-- A look-up. -/
theorem MapAt.look (h : MapAt w b enc ev M) (K : KeyEnc P k enc) (ht : P.underlying t = some (.map k e)) {z : Value} (hz : (zeroValue e).run P w = .ok z w) (a : α) (c : Bool) :
    (Instr.lookup t (.map (some b)) (enc a) c).run P w = .ok (if c then .tuple #[((mget M a).map ev).getD z, .bool (mget M a).isSome] else ((mget M a).map ev).getD z) w := by
  obtain ⟨es, clock, hb, hes, hA, _⟩ := h
  obtain ⟨d, hd, hK⟩ := K.kind
  have hks := keys_of_entries hK hes
  have hsp := mget_of_entries hes K.inj a
  rcases findNow_spec (hK a) es.toList 0 hks with ⟨h1, h2⟩ | ⟨j, e0, h1, h2, h3⟩
  · have hg := hsp.1 h2
    cases c <;> simp [Instr.lookup, run_underlying ht, MapKept.run_getObj_map hb, run_checkKey hd (hK a), run_findKey hd h1, hz, Result.andThen, hg]
  · obtain ⟨x, hg, hv, _⟩ := hsp.2 hA j e0 h2 h3
    cases c <;> simp [Instr.lookup, run_underlying ht, MapKept.run_getObj_map hb, run_checkKey hd (hK a), run_findKey hd h1, Result.andThen, hg, hv]

/-- A store. -/
theorem MapAt.store (h : MapAt w b enc ev M) (K : KeyEnc P k enc) (ht : P.underlying t = some (.map k e)) (a : α) (x : β) :
    ∃ w', (Instr.mapUpdate t (.map (some b)) (enc a) (ev x)).run P w = .ok () w' ∧ MapAt w' b enc ev (mput M a x) ∧ Chg (fun g => g = b) w w' ∧ w'.heap.size = w.heap.size := by
  obtain ⟨es, clock, hb, hes, hA, hborn, hnd⟩ := h
  obtain ⟨d, hd, hK⟩ := K.kind
  have hks := keys_of_entries hK hes
  have hsp := mget_of_entries hes K.inj a
  have hlt := lt_of_heap hb
  have hset : ∀ o : Obj, Chg (fun g => g = b) w { w with heap := w.heap.setIfInBounds b o } ∧ ({ w with heap := w.heap.setIfInBounds b o } : World).heap[b]? = some o := fun o =>
    ⟨⟨rfl, rfl, rfl, by simp, fun k _ hn => by simp [Array.getElem?_setIfInBounds, Ne.symm hn]⟩, by simp [Array.getElem?_setIfInBounds, hlt]⟩
  rcases findNow_spec (hK a) es.toList 0 hks with ⟨h1, h2⟩ | ⟨j, e0, h1, h2, h3⟩
  · have hg := hsp.1 h2
    refine ⟨_, by simp [Instr.mapUpdate, run_underlying ht, MapKept.run_getObj_map hb, run_checkKey hd (hK a), run_findKey hd h1, MapKept.run_setObj_map _ hb, Result.andThen]; rfl, ⟨_, _, (hset _).2, ?_, hA.put a x, ?_, ?_⟩, (hset _).1, by simp⟩
    · simp [mput, hg, hes]
    · intro y hy
      simp only [Array.toList_push, List.mem_append, List.mem_singleton] at hy
      rcases hy with hy | rfl
      · have := hborn y hy; omega
      · simp
    · rw [Array.toList_push, List.map_append, List.nodup_append]
      refine ⟨hnd, by simp, fun x hx y hy e => ?_⟩
      obtain ⟨z, hz, rfl⟩ := List.mem_map.1 hx
      have := hborn z hz
      simp at hy
      omega
  · obtain ⟨x0, hg, hv, hM⟩ := hsp.2 hA j e0 h2 h3
    have hj : es[j]? = some e0 := by simpa using h2
    have hjl : j < es.size := (Array.getElem?_eq_some_iff.1 hj).1
    refine ⟨_, by simp [Instr.mapUpdate, run_underlying ht, MapKept.run_getObj_map hb, run_checkKey hd (hK a), run_findKey hd h1, hj, h3, run_keyThatStays (hK a), MapKept.run_setObj_map _ hb, Result.andThen]; rfl, ⟨_, _, (hset _).2, ?_, hA.put a x, ?_, ?_⟩, (hset _).1, by simp⟩
    · rw [mput, if_pos (by simp [hg])]
      refine List.ext_getElem? fun i => ?_
      have he : (es.toList.map (fun e => (e.key, e.val)))[i]? = (M.map (fun p => (enc p.1, ev p.2)))[i]? := by rw [hes]
      simp only [List.getElem?_map, Array.getElem?_toList, Array.getElem?_modify] at he ⊢
      by_cases hij : j = i
      · subst hij
        rw [hj, hM]
        simp
      · simp only [hij, if_false]
        rw [he]
        cases hMi : M[i]? with
        | none => simp
        | some p =>
          have hne : p.1 ≠ a := by
            have hi := List.getElem?_eq_some_iff.1 hMi
            have hj' := List.getElem?_eq_some_iff.1 hM
            obtain ⟨hil, hi⟩ := hi
            obtain ⟨hjl', hj'⟩ := hj'
            have hp := List.pairwise_iff_getElem.1 hA
            rcases Nat.lt_or_gt_of_ne hij with hlt' | hgt
            · have := hp j i hjl' hil hlt'
              rw [hj', hi] at this
              exact Ne.symm this
            · have := hp i j hil hjl' hgt
              rw [hj', hi] at this
              exact this
          simp [hne]
    · intro y hy
      obtain ⟨i, hi⟩ := List.mem_iff_getElem?.1 hy
      simp only [Array.getElem?_toList, Array.getElem?_modify] at hi
      by_cases hij : j = i
      · subst hij
        rw [if_pos rfl, hj] at hi
        obtain rfl := Option.some.inj hi
        exact hborn e0 (by rw [← Array.mem_def]; exact Array.mem_of_getElem? hj)
      · rw [if_neg hij] at hi
        exact hborn y (by rw [← Array.mem_def]; exact Array.mem_of_getElem? hi)
    · have : (es.modify j fun e => { key := enc a, val := ev x, born := e.born }).toList.map (·.born) = es.toList.map (·.born) := by
        refine List.ext_getElem? fun i => ?_
        simp only [List.getElem?_map, Array.getElem?_toList, Array.getElem?_modify]
        by_cases hij : j = i
        · subst hij; simp [hj]
        · simp [hij]
      rw [this]; exact hnd

/-- A key that goes. -/
theorem MapAt.drop (h : MapAt w b enc ev M) (K : KeyEnc P k enc) (ht : P.underlying t = some (.map k e)) (a : α) (ty : TypeId) :
    ∃ w', (Builtin.delete_ #[t, k] ty #[.map (some b), enc a]).run P w = .ok (.tuple #[]) w' ∧ MapAt w' b enc ev (mdel M a) ∧ Chg (fun g => g = b) w w' ∧ w'.heap.size = w.heap.size := by
  obtain ⟨es, clock, hb, hes, hA, hborn, hnd⟩ := h
  obtain ⟨d, hd, hK⟩ := K.kind
  have hks := keys_of_entries hK hes
  have hsp := mget_of_entries hes K.inj a
  have hlt := lt_of_heap hb
  have hset : ∀ o : Obj, Chg (fun g => g = b) w { w with heap := w.heap.setIfInBounds b o } ∧ ({ w with heap := w.heap.setIfInBounds b o } : World).heap[b]? = some o := fun o =>
    ⟨⟨rfl, rfl, rfl, by simp, fun k _ hn => by simp [Array.getElem?_setIfInBounds, Ne.symm hn]⟩, by simp [Array.getElem?_setIfInBounds, hlt]⟩
  rcases findNow_spec (hK a) es.toList 0 hks with ⟨h1, h2⟩ | ⟨j, e0, h1, h2, h3⟩
  · have hg := hsp.1 h2
    refine ⟨_, by simp [Builtin.delete_, run_underlying ht, MapKept.run_getObj_map hb, run_checkKey hd (hK a), run_findKey hd h1, MapKept.run_setObj_map _ hb, Result.andThen], ⟨_, _, (hset _).2, ?_, hA.del a, hborn, hnd⟩, (hset _).1, by simp⟩
    rw [hes]
    congr 1
    unfold mdel
    exact (List.filter_eq_self.2 fun p hp => by simpa using mget_none hg p hp).symm
  · obtain ⟨x0, hg, hv, hM⟩ := hsp.2 hA j e0 h2 h3
    have hj : es[j]? = some e0 := by simpa using h2
    have hjl : j < es.size := (Array.getElem?_eq_some_iff.1 hj).1
    refine ⟨_, by simp [Builtin.delete_, run_underlying ht, MapKept.run_getObj_map hb, run_checkKey hd (hK a), run_findKey hd h1, MapKept.run_setObj_map _ hb, Result.andThen]; rfl, ⟨_, _, (hset _).2, ?_, hA.del a, ?_, ?_⟩, (hset _).1, by simp⟩
    · have he : (es.eraseIdxIfInBounds j).toList = es.toList.eraseIdx j := by simp [Array.eraseIdxIfInBounds, hjl]
      rw [he, ChangeMaps.map_eraseIdx, hes, ← ChangeMaps.map_eraseIdx]
      congr 1
      unfold mdel
      clear hes he h1 h2 h3 hj hjl hsp
      induction M generalizing j with
      | nil => simp at hM
      | cons p M ih =>
        have hA' := List.pairwise_cons.1 hA
        cases j with
        | zero =>
          obtain rfl : p = (a, x0) := by simpa using hM
          rw [List.eraseIdx_cons_zero, List.filter_cons]
          simp only [ne_eq, not_true_eq_false, decide_false, Bool.false_eq_true, if_false]
          exact (List.filter_eq_self.2 fun q hq => by simpa using (Ne.symm (hA'.1 q hq))).symm
        | succ j =>
          have hM' : M[j]? = some (a, x0) := by simpa using hM
          have hp : p.1 ≠ a := hA'.1 (a, x0) (List.mem_of_getElem? hM')
          rw [List.eraseIdx_cons_succ, List.filter_cons]
          simp only [ne_eq, hp, not_false_eq_true, decide_true, if_true]
          rw [mget_cons, if_neg hp] at hg
          rw [ih hA'.2 _ hg hM']
    · intro y hy
      have he : (es.eraseIdxIfInBounds j).toList = es.toList.eraseIdx j := by simp [Array.eraseIdxIfInBounds, hjl]
      rw [he] at hy
      exact hborn y (List.mem_of_mem_eraseIdx hy)
    · have he : (es.eraseIdxIfInBounds j).toList = es.toList.eraseIdx j := by simp [Array.eraseIdxIfInBounds, hjl]
      rw [he]
      exact hnd.sublist ((List.eraseIdx_sublist _ _).map _)

/-- A store into a map, at the operation. -/
theorem wp_mapUpdate {o : Oper} {a : Act} {Kt : Act → World → Prop} {Q : Exit → Act → World → Prop} (m x v : Operand) (hop : o.op = Op.mapUpdate t m x v) (K : KeyEnc P k enc) (ht : P.underlying t = some (.map k e))
    (hm : a.eval m = .map (some b)) (h : MapAt w b enc ev M) (key : α) (y : β) (hx : a.eval x = enc key) (hv : a.eval v = ev y)
    (hK : ∀ w', MapAt w' b enc ev (mput M key y) → Chg (fun g => g = b) w w' → w'.heap.size = w.heap.size → Kt (a.put o.dst undef) w') : o.wp P a w Kt Q := by
  obtain ⟨w', hrun, r1, r2, r3⟩ := h.store K ht key y
  unfold Oper.wp
  simp [execOp, hop, hm, hx, hv, hrun, Result.andThen]
  exact hK w' r1 r2 r3
/-- A key that goes, at the operation. -/
theorem wp_delete {o : Oper} {a : Act} {Kt : Act → World → Prop} {Q : Exit → Act → World → Prop} (m x : Operand) (hop : o.op = .call { callee := .builtin .delete, args := #[m, x], argTypes := #[t, k] }) (K : KeyEnc P k enc) (ht : P.underlying t = some (.map k e))
    (hm : a.eval m = .map (some b)) (h : MapAt w b enc ev M) (key : α) (hx : a.eval x = enc key)
    (hK : ∀ w', MapAt w' b enc ev (mdel M key) → Chg (fun g => g = b) w w' → w'.heap.size = w.heap.size → Kt (a.put o.dst (.tuple #[])) w') : o.wp P a w Kt Q := by
  obtain ⟨w', hrun, r1, r2, r3⟩ := h.drop K ht key o.type
  unfold Oper.wp execOp
  simp only [hop, resolve, invoke, builtin, Sem.run_bind, Sem.run_pure, Result.andThen_ok, List.map_toArray, List.map_cons, List.map_nil, hm, hx, hrun]
  exact hK w' r1 r2 r3
end

/-! ### Rows of elements of one size -/
theorem flat_len {α : Type} (f : α → List Value) (s : Nat) (hf : ∀ x, (f x).length = s) : ∀ l : List α, (l.flatMap f).length = l.length * s
  | [] => by simp
  | x :: l => by
    rw [List.flatMap_cons, List.length_append, hf, flat_len f s hf l, List.length_cons, Nat.add_mul]
    omega
theorem flat_get {α : Type} (f : α → List Value) (s : Nat) (hf : ∀ x, (f x).length = s) : ∀ (l : List α) (j r : Nat), r < s → (l.flatMap f)[j * s + r]? = (l[j]?).bind fun x => (f x)[r]?
  | [], j, r, _ => by simp
  | x :: l, 0, r, hr => by
    rw [List.flatMap_cons, List.getElem?_append_left (by rw [hf]; omega)]
    simp
  | x :: l, j + 1, r, hr => by
    rw [List.flatMap_cons, List.getElem?_append_right (by rw [hf, Nat.add_mul]; omega), hf, show (j + 1) * s + r - s = j * s + r by rw [Nat.add_mul]; omega, flat_get f s hf l j r hr, List.getElem?_cons_succ]
/-- Two lists of elements of one size are the same if they are place by place. -/
theorem flat_ext {α : Type} (f : α → List Value) (s : Nat) (hs : 0 < s) (hf : ∀ x, (f x).length = s) (l : List α) (xs : List Value) (hl : xs.length = l.length * s)
    (h : ∀ j r, j < l.length → r < s → xs[j * s + r]? = (l[j]?).bind fun x => (f x)[r]?) : xs = l.flatMap f := by
  refine List.ext_getElem? fun i => ?_
  by_cases hi : i < l.length * s
  · have hj : i / s < l.length := Nat.div_lt_of_lt_mul (by rw [Nat.mul_comm]; exact hi)
    have := h (i / s) (i % s) hj (Nat.mod_lt _ hs)
    rw [show i / s * s + i % s = i by rw [Nat.mul_comm]; exact Nat.div_add_mod i s] at this
    have h2 := flat_get f s hf l (i / s) (i % s) (Nat.mod_lt _ hs)
    rw [show i / s * s + i % s = i by rw [Nat.mul_comm]; exact Nat.div_add_mod i s] at h2
    rw [this, h2]
  · rw [List.getElem?_eq_none (by omega), List.getElem?_eq_none (by rw [flat_len f s hf]; omega)]

/-! ### Owned rows -/
section
variable {w w' : World} {base : Nat} {e : TypeId} {size : Nat} {v : Value} {n : Nat} {xs : List Value}
theorem own_keep (h : w.ownsRow base e size v n xs) (hk : ∀ b, v.ownBlock = some b → w'.heap[b]? = w.heap[b]?) : w'.ownsRow base e size v n xs := by
  obtain ⟨h1, h2⟩ := h
  refine ⟨h1, ?_⟩
  rcases h2 with h2 | ⟨g, cap, cur, hv, hg, hh, r⟩
  · exact .inl h2
  · exact .inr ⟨g, cap, cur, hv, hg, (hk g (by rw [hv]; rfl)).trans hh, r⟩
theorem own_lt (h : w.ownsRow base e size v n xs) (b : Nat) (hb : v.ownBlock = some b) : b < w.heap.size := (h.lt b hb).2
theorem own_below (h : w.ownsRow base e size v n xs) (hb : Below w.heap.size w w') : w'.ownsRow base e size v n xs := own_keep h fun b hv => hb.block b (own_lt h b hv)
theorem own_chg {S : Nat → Prop} (h : w.ownsRow base e size v n xs) (hb : Chg S w w') (hn : ∀ b, v.ownBlock = some b → ¬ S b) : w'.ownsRow base e size v n xs := own_keep h fun b hv => hb.block b (own_lt h b hv) (hn b hv)
theorem own_drew (h : w.ownsRow base e size v n xs) : w.drew.ownsRow base e size v n xs := h
theorem own_drewN (h : w.ownsRow base e size v n xs) (k : Nat) : (w.drewN k).ownsRow base e size v n xs := own_keep h fun _ _ => rfl
theorem own_form (h : w.ownsRow base e size v n xs) : ∃ A c, v = .slice A n c := by
  rcases h.2 with ⟨rfl, rfl⟩ | ⟨g, cap, cur, rfl, _⟩
  · exact ⟨none, 0, rfl⟩
  · exact ⟨_, cap, rfl⟩
theorem own_type (h : w.ownsRow base e size v n xs) (b : Nat) (hb : v.ownBlock = some b) : ∃ cur, Blk w b e cur := by
  rcases h.2 with ⟨rfl, rfl⟩ | ⟨g, cap, cur, rfl, _, hg, _⟩
  · cases hb
  · obtain rfl : g = b := by simpa [Value.ownBlock] using hb
    exact ⟨cur, hg⟩
end

/-! ### append of one element -/
section
variable {P : Program} {w : World}
theorem wp_push {o : Oper} {a : Act} {K : Act → World → Prop} {Q : Exit → Act → World → Prop} (s x : Operand) (t : TypeId)
    (ho : o.op = .call { callee := .builtin .append, args := #[s, x], argTypes := #[t, t] }) (e : TypeId) (ht : P.underlying t = some (.slice e)) (size bytes : Nat)
    (hinfo : (P.info? e).map (fun i => (i.zero.map (fun z => z.cells.size), i.size, i.bytes)) = some (some size, size, bytes)) (hsz : 0 < size)
    (base : Nat) (v : Value) (n : Nat) (xs : List Value) (hs : a.eval s = v) (hown : w.ownsRow base e size v n xs) (nb : Nat) (c : Nat) (cs : Array Value) (tt : TypeId)
    (hx : a.eval x = .slice (some ⟨nb, 0, none⟩) 1 c) (hb : Blk w nb tt cs) (hl : cs.size = size) (h1 : ∀ u ∈ cs.toList, u.oneCell' = true)
    (hn : n ≤ 1000000000) (hbytes : (n + 1) * bytes ≤ 140737488355328) (hbase : base ≤ w.heap.size)
    (h : ∀ g cap w', w'.ownsRow base e size (.slice (some ⟨g, 0, none⟩) (n + 1) cap) (n + 1) (xs ++ cs.toList) → Chg (fun b => v.ownBlock = some b) w w' → (v.ownBlock = some g ∨ w.heap.size ≤ g) → g < w'.heap.size →
      K (a.put o.dst (.slice (some ⟨g, 0, none⟩) (n + 1) cap)) w') : o.wp P a w K Q := by
  cases hi : P.info? e with
  | none => rw [hi] at hinfo; cases hinfo
  | some i =>
    rw [hi] at hinfo
    simp only [Option.map_some, Option.some.injEq, Prod.mk.injEq] at hinfo
    obtain ⟨hz, hsize, hby⟩ := hinfo
    cases hz' : i.zero with
    | none => rw [hz'] at hz; cases hz
    | some z =>
      rw [hz'] at hz
      simp only [Option.map_some, Option.some.injEq] at hz
      refine wp_append_lies w s x t ho base e i z size bytes ht hi hz' hsize hby hz hsz v n xs hs hown ⟨nb, 0, none⟩ 1 c cs.toList hx (by simpa using hl) (World.news_of_block hb) h1 (by omega) (by simp only [maxLen]; omega) hbytes hbase w.heap.size rfl ?_
      intro g cap w' r1 r2 r3 r4
      exact h g cap w' r1 (Chg.of_grown r2) (r3.imp id (fun h => by omega)) r4
end
end Go.Proofs.Ytimkoepaeebleaa
