/- shard.New for a law, and the run of ShardFirst. -/
import Derived.Test.YtimkoepaeebleaaShFin
import Derived.Test.YtimkoepaeebleaaShRun
import Derived.Test.YtimkoepaeebleaaShErr
import Derived.Test.YtimkoepaeebleaaShIni
namespace Go.Proofs.Ytimkoepaeebleaa
open Go.RowKit

/-- What shard.New leaves where the calls are few. -/
def NewLaw (w : World) (shards : Int) (work : List (List Ask)) (e : Ending) (w' : World) : Prop :=
  (newErr shards work ≠ 0 ∧ NewBad w (newErr shards work) e w') ∨ (newErr shards work = 0 ∧ NewLive w shards.toNat work e w' ∧ 1 ≤ shards ∧ shards ≤ 256 ∧ 1 ≤ work.length ∧ work.length ≤ 64 ∧ total work ≤ 60 ∧ (∀ l ∈ work, ∀ a ∈ l, a.key.size ≤ 600) ∧ (∀ l ∈ work, ∀ a ∈ l, askBad a = false))
theorem mem_total {work : List (List Ask)} {l : List Ask} (h : l ∈ work) : l.length ≤ total work := by
  unfold total
  induction work with
  | nil => cases h
  | cons x r ih =>
    simp only [List.map_cons, List.sum_cons]
    rcases List.mem_cons.1 h with rfl | h
    · omega
    · have := ih h; omega
theorem few_small {work : List (List Ask)} {np : Nat} (h : fewB work np = true) (hw : work.length ≤ 64) (ht : total work ≤ 1024) : total work ≤ 60 ∧ ∀ l ∈ work, ∀ a ∈ l, a.key.size ≤ 600 := by
  unfold fewB at h
  simp only [Bool.and_eq_true, Bool.or_eq_true, decide_eq_true_eq] at h
  rw [List.take_of_length_le (by omega)] at h
  have h60 : total work ≤ 60 := by omega
  refine ⟨h60, fun l hl a ha => ?_⟩
  have h1 := List.all_eq_true.1 h.1.1 l hl
  have hll := mem_total hl
  unfold shortKeys at h1
  rw [List.take_of_length_le (by omega)] at h1
  simpa using List.all_eq_true.1 h1 a ha
theorem workRow_of {w : World} {A : Option Addr} {work : List (List Ask)} (h : WorkAt w A work) (h1 : 1 ≤ work.length) : ∃ bW oW, A = some ⟨bW, oW, none⟩ ∧ WorkRow w bW oW work := by
  obtain ⟨l, hl⟩ : ∃ l, work[0]? = some l := ⟨work[0], List.getElem?_eq_getElem h1⟩
  obtain ⟨bW, oW, rfl, _⟩ := h 0 l hl
  refine ⟨bW, oW, rfl, fun i asks hi => ?_⟩
  obtain ⟨b2, o2, e, A', c, h2, h3, h4⟩ := h i asks hi
  injection e with e
  injection e with e1 e2
  subst e1 e2
  exact ⟨A', c, h2, h3, h4⟩
theorem New_law (w : World) (shards : Int) (A : Option Addr) (cW np : Nat) (work : List (List Ask)) (h : WorkAt w A work) (hl : ∀ l ∈ work, l.length ≤ 1048576) (hf : fewB work np = true) :
    Calls Try.prog 13 #[.int .i64 shards, .slice A work.length cW] w (NewLaw w shards work) := by
  by_cases h1 : shards < 1 ∨ 256 < shards ∨ work.length < 1 ∨ 64 < work.length
  · have e1 : newErr shards work = 1 := by unfold newErr; rw [if_pos h1]
    exact (New_arg w shards A work.length cW h1).mono fun e w' hb => .inl ⟨by rw [e1]; decide, by rw [e1]; exact hb⟩
  obtain ⟨n, rfl⟩ : ∃ n : Nat, shards = n := ⟨shards.toNat, by omega⟩
  by_cases h2 : 1024 < total work
  · have e1 : newErr n work = 3 := by unfold newErr; rw [if_neg h1, if_pos h2]
    exact (New_long w n A cW work (by omega) (by omega) (by omega) (by omega) h2 hl h).mono fun e w' hb => .inl ⟨by rw [e1]; decide, by rw [e1]; exact hb⟩
  obtain ⟨h60, hk⟩ := few_small hf (by omega) (by omega)
  obtain ⟨bW, oW, rfl, hr⟩ := workRow_of h (by omega)
  have hk2 : ∀ l ∈ work, ∀ a ∈ l, a.key.size ≤ 1048576 := fun l hl a ha => by have := hk l hl a ha; omega
  cases hb : work.any (fun l => l.any askBad) with
  | true =>
    have e1 : newErr n work = 270 := by unfold newErr; rw [if_neg h1, if_neg h2, if_pos hb]
    exact (New_any w n bW oW cW work (by omega) (by omega) (by omega) (by omega) (by omega) hk2 hr).mono fun e w' ha => .inl ⟨by rw [e1]; decide, by rw [e1]; exact ha.1 hb⟩
  | false =>
    have e1 : newErr n work = 0 := by unfold newErr; rw [if_neg h1, if_neg h2, hb]; rfl
    have hnb : ∀ l ∈ work, ∀ a ∈ l, askBad a = false := fun l hl a ha => by
      have := List.any_eq_false.1 hb l hl
      rw [Bool.not_eq_true, List.any_eq_false] at this
      simpa using this a ha
    exact (New_live w n bW oW cW work (by omega) (by omega) (by omega) (by omega) (by omega) hnb hk2 hr).mono fun e w' ha => .inr ⟨e1, by simpa using ha, by omega, by omega, by omega, by omega, h60, hk, hnb⟩

/-- What holds between two steps of ShardFirst's run. -/
structure FJ (w0 : World) (bt : Nat) (V : VS) (w : World) : Prop where
  live : ∃ Z, Live Z w bt V ∧ ∀ b, Z b → w0.heap.size ≤ b
  below : Below w0.heap.size w0 w
  inv3 : V.Inv3
  ksz : V.Ksz
theorem FJ.later {w0 w w' : World} {bt : Nat} {V : VS} (h : FJ w0 bt V w) (hb : Below w.heap.size w w') : FJ w0 bt V w' := by
  obtain ⟨⟨Z, h1, h2⟩, h3, h4, h5⟩ := h
  exact ⟨⟨Z, h1.below hb, h2⟩, h3.trans (hb.mono h3.size), h4, h5⟩
theorem FJ.step {w0 w : World} {bt : Nat} {V : VS} (i : Nat) (h : FJ w0 bt V w) (hs : V.steps ≤ 900000) :
    Calls Try.prog 33 #[.pointer (some ⟨bt, 0, none⟩), .int .i64 i] w (StepK (fun V i w => FJ w0 bt (V.step i) w) V i) := by
  obtain ⟨⟨Z, h1, h2⟩, h3, h4, h5⟩ := h
  have hI := h1.inv
  refine (Step_live h1 hs i).mono fun e w' ⟨e1, e2, e3⟩ => ⟨e1, ⟨⟨_, e2, fun b hb => ?_⟩, ?_, h4.step hI i, h5.step i⟩⟩
  · rcases hb with hb | hb
    · exact h2 b hb
    · have := hb.1; have := h3.size; omega
  · exact h3.trans (e3.to_below (fun b hb => h2 b hb) h3.size)
theorem first1 (i : Int) (w : World) : Calls Try.prog 32 #[.int .i64 i] w fun e w' => e = .returned (.bool true) ∧ w = w' := by
  go_enter Try.func32, Try.ntmps32
  go_wp2
  go_ret
  exact ⟨rfl, rfl⟩
theorem run_fst (w0 w : World) (bt : Nat) (V : VS) (P : Option Addr) (pk : List Nat) (cP : Nat) (hpk : PicksAt w0 P pk) (hnp : pk.length ≤ 1048576) (h : FJ w0 bt V w) (hp : V.Pot) (ht : total V.work ≤ 60) :
    Calls Try.prog 19 #[.pointer (some ⟨bt, 0, none⟩), .slice P pk.length cP, .func (.func 32) #[] #[]] w (RunPost (FJ w0 bt) V.work) :=
  run_first bt (FJ w0 bt) (fun V i w => FJ w0 bt (V.step i) w) P pk cP (fun _ _ h => let ⟨Z, h1, _⟩ := h.live; ⟨Z, h1⟩) (fun _ _ _ h hb => h.later hb) (fun _ _ h => hpk.below h.below) hnp
    (fun _ _ i h hs => h.step i hs) (fun V w i h => (first1 i w).mono fun e w' ⟨h1, h2⟩ => ⟨h1, h2 ▸ h⟩) V w h hp ht
end Go.Proofs.Ytimkoepaeebleaa
