/- A table that was just made, and a table behind some steps. -/
import Derived.Test.YtimkoepaeebleaaShAny
import Derived.Test.YtimkoepaeebleaaShTbl
namespace Go.Proofs.Ytimkoepaeebleaa
set_option linter.unusedVariables false
open Go.RowKit

def VS.init (shards : Nat) (work : List (List Ask)) : VS := ⟨shards, work, List.replicate shards (-1), List.replicate work.length 0, fun _ => none, [], [], [], 0⟩
theorem fresh_vs {T : TS} {shards : Nat} {work : List (List Ask)} (h : Fresh T shards work) : T.vs = VS.init shards work := by
  obtain ⟨h1, h2, h3, h4, h5, h6, h7, h8, h9, h10, h11⟩ := h
  simp [TS.vs, VS.init, h1, h3, h4, h5, h6, h7, h8, h9, h11, mget_nil]
theorem init_inv (shards : Nat) (work : List (List Ask)) (h1 : 1 ≤ shards) (h2 : work.length ≤ 64) : (VS.init shards work).Inv := by
  refine ⟨by simp [VS.init], h1, by simp [VS.init], h2, fun i l k hl hk => ?_, fun i x hx => (by cases hx), fun s o hs => ?_, Nat.le_refl _⟩
  · have : (List.replicate work.length 0)[i]? = some k := hk
    rw [List.getElem?_replicate] at this
    split at this
    · have := Option.some.inj this; omega
    · cases this
  · have : (List.replicate shards (-1 : Int))[s]? = some o := hs
    rw [List.getElem?_replicate] at this
    split at this
    · exact .inl (Option.some.inj this).symm
    · cases this
theorem fresh_good {T : TS} {shards : Nat} {work : List (List Ask)} (h : Fresh T shards work) (h1 : 1 ≤ shards) (h2 : work.length ≤ 64) : Good T :=
  ⟨by rw [fresh_vs h]; exact init_inv shards work h1 h2, by rw [h.mst]; omega, by rw [h.mst, h.steps]; omega⟩

/-- A table in memory, all of it in the blocks Z, in a plain state V. -/
structure Live (Z : Nat → Prop) (w : World) (bt : Nat) (V : VS) : Prop where
  tab : ∃ S R T, TableAt w S R T ∧ Good T ∧ T.vs = V ∧ T.bt = bt ∧ (∀ b, S b → Z b) ∧ (∀ b, R b → Z b)
  lt : ∀ b, Z b → b < w.heap.size
/-- What stands far from the table turns: the table stays. -/
theorem Live.keep {Z : Nat → Prop} {w w' : World} {bt : Nat} {V : VS} (h : Live Z w bt V) (hk : ∀ b, Z b → w'.heap[b]? = w.heap[b]?) (hz : w.heap.size ≤ w'.heap.size) : Live Z w' bt V := by
  obtain ⟨⟨S, R, T, h1, h2, h3, h4, h5, h6⟩, hl⟩ := h
  exact ⟨⟨S, R, T, h1.keep (fun b hs => hk b (h5 b hs)) (fun b hr => hk b (h6 b hr)) hz, h2, h3, h4, h5, h6⟩, fun b hb => Nat.lt_of_lt_of_le (hl b hb) hz⟩
theorem Live.below {Z : Nat → Prop} {w w' : World} {bt : Nat} {V : VS} (h : Live Z w bt V) (hb : Below w.heap.size w w') : Live Z w' bt V :=
  h.keep (fun b hz => hb.block b (h.lt b hz)) hb.size
theorem Live.chg {Z D : Nat → Prop} {w w' : World} {bt : Nat} {V : VS} (h : Live Z w bt V) (hD : ∀ b, Z b → ¬ D b) (hb : Chg D w w') : Live Z w' bt V :=
  h.keep (fun b hz => hb.block b (h.lt b hz) (hD b hz)) hb.size
theorem Live.inv {Z : Nat → Prop} {w : World} {bt : Nat} {V : VS} (h : Live Z w bt V) : V.Inv := by
  obtain ⟨⟨S, R, T, h1, h2, h3, _⟩, _⟩ := h
  rw [← h3]
  exact h2.inv
/-- The blocks that came since w. -/
def since (w w' : World) : Nat → Prop := fun b => w.heap.size ≤ b ∧ b < w'.heap.size
def NewLive (w : World) (shards : Nat) (work : List (List Ask)) (e : Ending) (w' : World) : Prop :=
  ∃ bt, e = .returned (.tuple #[.pointer (some ⟨bt, 0, none⟩), .int .i64 0]) ∧ Live (since w w') w' bt (VS.init shards work) ∧ Below w.heap.size w w'
theorem New_live (w : World) (shards bW oW cW : Nat) (work : List (List Ask)) (hs : 1 ≤ shards) (hs2 : shards ≤ 256) (hw : 1 ≤ work.length) (hw2 : work.length ≤ 64) (ht : total work ≤ 1024) (hb : ∀ l ∈ work, ∀ a ∈ l, askBad a = false) (hk : ∀ l ∈ work, ∀ a ∈ l, a.key.size ≤ 1048576) (h : WorkRow w bW oW work) :
    Calls Try.prog 13 #[.int .i64 shards, .slice (some ⟨bW, oW, none⟩) work.length cW] w (NewLive w shards work) :=
  (New_any w shards bW oW cW work hs hs2 hw hw2 ht hk h).mono fun e w' hall => by
    obtain ⟨S, R, T, h1, h2, h3, h4, h5, h6⟩ := hall.2 (by
      rw [List.any_eq_false]
      intro l hl
      rw [Bool.not_eq_true, List.any_eq_false]
      intro a ha
      rw [hb l hl a ha]
      simp)
    exact ⟨T.bt, h1, ⟨⟨S, R, T, h2, fresh_good h3 hs hw2, fresh_vs h3, rfl, fun b hb => ⟨h5 b hb, h2.lt b hb⟩, fun b hb => ⟨h6 b hb, h2.ltR b hb⟩⟩, fun b hb => hb.2⟩, h4⟩
def StepLive (Z : Nat → Prop) (w : World) (bt : Nat) (V : VS) (e : Ending) (w' : World) : Prop := e = .returned (.tuple #[]) ∧ Live (grow Z w w') w' bt V ∧ Chg Z w w'
theorem Step_live {Z : Nat → Prop} {w : World} {bt : Nat} {V : VS} (h : Live Z w bt V) (hs : V.steps ≤ 900000) (i : Nat) :
    Calls Try.prog 33 #[.pointer (some ⟨bt, 0, none⟩), .int .i64 i] w (StepLive Z w bt (V.step i)) := by
  obtain ⟨⟨S, R, T, h1, h2, rfl, rfl, h5, h6⟩, hl⟩ := h
  refine (Step_any w S R T h1 h2 hs i).mono fun e w' ⟨S', T', e1, e2, e3, e4, e5, e6, e7⟩ => ⟨e1, ⟨⟨S', R, T', e2, e7, e5, e6, fun b hb => ?_, fun b hb => .inl (h6 b hb)⟩, fun b hb => ?_⟩, e3.mono fun b _ hb => h5 b hb⟩
  · rcases e4 b hb with h | h
    · exact .inl (h5 b h)
    · exact .inr ⟨h, e2.lt b hb⟩
  · rcases hb with hb | hb
    · exact Nat.lt_of_lt_of_le (hl b hb) e3.size
    · exact hb.2
end Go.Proofs.Ytimkoepaeebleaa
