/- A table that was just made, and a table behind some steps. -/
import Derived.Test.YtimkoepaeebleaaShAny
import Derived.Test.YtimkoepaeebleaaShTbl
namespace Go.Proofs.Ytimkoepaeebleaa
open Go.RowKit

def VS.init (shards : Nat) (work : List (List Ask)) : VS := ⟨shards, work, List.replicate shards (-1), List.replicate work.length 0, fun _ => none, [], [], [], 0⟩
theorem fresh_vs {T : TS} {shards : Nat} {work : List (List Ask)} (h : Fresh T shards work) : T.vs = VS.init shards work := by
  obtain ⟨h1, h2, h3, h4, h5, h6, h7, h8, h9, h10, h11⟩ := h
  simp [TS.vs, VS.init, h1, h3, h4, h5, h6, h7, h8, h9, h11, mget_nil]
theorem init_inv (shards : Nat) (work : List (List Ask)) (h1 : 1 ≤ shards) (h2 : work.length ≤ 64) : (VS.init shards work).Inv := by
  refine ⟨by simp [VS.init], h1, by simp [VS.init], h2, fun i l k hl hk => ?_, fun i x hx => (by cases hx), fun s o hs => ?_, Nat.le_refl _⟩
  · have : (List.replicate work.length 0)[i]? = some k := hk
    rw [List.getElem?_replicate] at this
    split at this
    · have := Option.some.inj this; omega
    · cases this
  · have : (List.replicate shards (-1 : Int))[s]? = some o := hs
    rw [List.getElem?_replicate] at this
    split at this
    · exact .inl (Option.some.inj this).symm
    · cases this
theorem fresh_good {T : TS} {shards : Nat} {work : List (List Ask)} (h : Fresh T shards work) (h1 : 1 ≤ shards) (h2 : work.length ≤ 64) : Good T :=
  ⟨by rw [fresh_vs h]; exact init_inv shards work h1 h2, by rw [h.mst]; omega, by rw [h.mst, h.steps]; omega⟩

/-- A table in memory that was made behind w0, all of it in new memory, in a plain state V. -/
structure Live (B : Nat) (w : World) (bt : Nat) (V : VS) : Prop where
  tab : ∃ S R T, TableAt w S R T ∧ Good T ∧ T.vs = V ∧ T.bt = bt ∧ (∀ b, S b → B ≤ b) ∧ (∀ b, R b → B ≤ b)
theorem Live.below {B : Nat} {w w' : World} {bt : Nat} {V : VS} (h : Live B w bt V) (hb : Below w.heap.size w w') : Live B w' bt V := by
  obtain ⟨S, R, T, h1, h2⟩ := h.tab
  exact ⟨S, R, T, h1.below hb, h2⟩
/-- What stands far from the table turns: the table stays. -/
theorem Live.chg {B : Nat} {w w' : World} {bt : Nat} {V : VS} (h : Live B w bt V) (D : Nat → Prop) (hD : ∀ b, B ≤ b → b < w.heap.size → ¬ D b) (hb : Chg D w w') : Live B w' bt V := by
  obtain ⟨S, R, T, h1, h2, h3, h4, h5, h6⟩ := h.tab
  refine ⟨S, R, T, h1.keep (fun b hs => hb.block b (h1.lt b hs) (hD b (h5 b hs) (h1.lt b hs))) (fun b hr => hb.block b (h1.ltR b hr) (hD b (h6 b hr) (h1.ltR b hr))) hb.size, h2, h3, h4, h5, h6⟩
def NewLive (w : World) (shards : Nat) (work : List (List Ask)) (e : Ending) (w' : World) : Prop :=
  ∃ bt, e = .returned (.tuple #[.pointer (some ⟨bt, 0, none⟩), .int .i64 0]) ∧ Live w.heap.size w' bt (VS.init shards work) ∧ Below w.heap.size w w'
theorem New_live (w : World) (shards bW oW cW : Nat) (work : List (List Ask)) (hs : 1 ≤ shards) (hs2 : shards ≤ 256) (hw : 1 ≤ work.length) (hw2 : work.length ≤ 64) (ht : total work ≤ 1024) (hb : ∀ l ∈ work, ∀ a ∈ l, askBad a = false) (hk : ∀ l ∈ work, ∀ a ∈ l, a.key.size ≤ 1048576) (h : WorkRow w bW oW work) :
    Calls Try.prog 13 #[.int .i64 shards, .slice (some ⟨bW, oW, none⟩) work.length cW] w (NewLive w shards work) :=
  (New_ok w shards bW oW cW work hs hs2 hw hw2 ht hb hk h).mono fun e w' ⟨S, R, T, h1, h2, h3, h4, h5, h6⟩ => ⟨T.bt, h1, ⟨S, R, T, h2, fresh_good h3 hs hw2, fresh_vs h3, rfl, h5, h6⟩, h4⟩
def StepLive (B : Nat) (w : World) (bt : Nat) (V : VS) (e : Ending) (w' : World) : Prop := e = .returned (.tuple #[]) ∧ Live B w' bt V ∧ Chg (fun b => B ≤ b) w w'
theorem Step_live {B : Nat} {w : World} {bt : Nat} {V : VS} (h : Live B w bt V) (hs : V.steps ≤ 900000) (hB : B ≤ w.heap.size) (i : Nat) :
    Calls Try.prog 33 #[.pointer (some ⟨bt, 0, none⟩), .int .i64 i] w (StepLive B w bt (V.step i)) := by
  obtain ⟨S, R, T, h1, h2, rfl, rfl, h5, h6⟩ := h.tab
  refine (Step_any w S R T h1 h2 hs i).mono fun e w' ⟨S', T', e1, e2, e3, e4, e5, e6, e7⟩ => ⟨e1, ⟨S', R, T', e2, e7, e5, e6, fun b hb => ?_, h6⟩, e3.mono fun b _ hb => h5 b hb⟩
  rcases e4 b hb with h | h
  · exact h5 b h
  · omega
end Go.Proofs.Ytimkoepaeebleaa
