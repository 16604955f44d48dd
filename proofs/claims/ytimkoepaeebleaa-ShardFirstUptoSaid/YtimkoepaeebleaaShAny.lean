/- A worker's step, whatever the state: the table in memory goes as the plain machine goes. -/
import Derived.Test.YtimkoepaeebleaaShPure
import Derived.Test.YtimkoepaeebleaaShStepB
import Derived.Test.YtimkoepaeebleaaShStepD
namespace Go.Proofs.Ytimkoepaeebleaa
open Go.RowKit

structure Good (T : TS) : Prop where
  inv : T.vs.Inv
  mst0 : 0 ≤ T.mst
  mst : T.mst ≤ T.steps
def Stepd (w : World) (S R : Nat → Prop) (T : TS) (i : Nat) (e : Ending) (w' : World) : Prop :=
  ∃ S' T', e = .returned (.tuple #[]) ∧ TableAt w' S' R T' ∧ Chg S w w' ∧ (∀ b, S' b → S b ∨ w.heap.size ≤ b) ∧ T'.vs = T.vs.step i ∧ T'.bt = T.bt ∧ Good T'

theorem vs_none {T : TS} {i : Nat} (h : T.vs.hands i = none) : mget T.hands i = none := by
  simpa [TS.vs] using h
theorem vs_some {T : TS} {i : Nat} {y : VH} (h : T.vs.hands i = some y) : ∃ x, mget T.hands i = some x ∧ x.vh = y := by
  simpa [TS.vs] using h
theorem vs_put (M : List (Nat × Hand)) (i : Nat) (x : Hand) : (fun j => (mget (mput M i x) j).map Hand.vh) = put (fun j => (mget M j).map Hand.vh) i (some x.vh) := by
  funext j
  rw [mget_put]
  unfold put
  by_cases h : i = j
  · simp [h]
  · simp [h, Ne.symm h]
theorem vs_del (M : List (Nat × Hand)) (i : Nat) : (fun j => (mget (mdel M i) j).map Hand.vh) = put (fun j => (mget M j).map Hand.vh) i none := by
  funext j
  rw [mget_del]
  unfold put
  by_cases h : i = j
  · simp [h]
  · simp [h, Ne.symm h]
theorem set_modify {α : Type} {l : List α} {i : Nat} {c : α} (f : α → α) (h : l[i]? = some c) : l.set i (f c) = l.modify i f := by
  refine List.ext_getElem? fun j => ?_
  rw [List.getElem?_modify]
  by_cases hj : i = j
  · subst hj
    have := (List.getElem?_eq_some_iff.1 h).1
    rw [List.getElem?_set_self this, h]
    simp
  · rw [List.getElem?_set_ne hj]
    simp [hj]

/-- What each kind of step comes to, as a plain machine. -/
theorem vs_hand (T : TS) (i : Nat) (x : Hand) : (T.stepped.hand i x).vs = T.vs.hand i x.vh := by
  simp only [TS.vs, TS.hand, TS.stepped, VS.hand]
  rw [vs_put]
theorem vs_ended (T : TS) (i k : Nat) (x : Hand) (c : CallR) (n e : Int) (hc : T.past[x.at_]? = some c) (hk : T.at_[i]? = some k) : (T.stepped.ended i k x c n e).vs = T.vs.end_ i x.vh n e := by
  simp only [TS.vs, TS.ended, TS.stepped, VS.end_, Hand.vh]
  rw [vs_del, set_modify (fun c => setCall c (T.steps + 1 : Nat) n e) hc, set_modify (· + 1) hk]
theorem vs_lockd (T : TS) (a : Ask) : (T.lockd (shOf T a) (-1)).vs = T.vs.unlocked a := rfl

theorem own_ok {V : VS} (h : V.Inv) (s : Nat) (o : Int) (hs : V.own[s]? = some o) : okOwner o = true := by
  rcases h.owner s o hs with h0 | ⟨j, z, b, h0, _, _, h5, _⟩
  · subst h0; rfl
  · have := h.lt64 h5
    simp [okOwner, isWk, h0]
    omega
theorem isWk_of {V : VS} (h : V.Inv) {i : Nat} {a : Ask} (ha : V.askOf i = some a) : isWk (i : Int) = true := by
  have := h.lt64 ha
  simp [isWk]; omega

set_option maxHeartbeats 1000000 in
theorem Step_any (w : World) (S R : Nat → Prop) (T : TS) (h : TableAt w S R T) (hG : Good T) (hst : T.steps ≤ 900000) (i : Nat) :
    Calls Try.prog 33 #[.pointer (some ⟨T.bt, 0, none⟩), .int .i64 i] w (Stepd w S R T i) := by
  have hI := hG.inv
  have hG2 := hI.step i
  have hpl : T.past.length ≤ 1000000 := by have : T.past.length ≤ T.steps := hI.past; omega
  have hm0 := hG.mst0
  have hm1 := hG.mst
  have same : ∀ {e w'}, T.vs.step i = T.vs → Stepped w S R T e w' → Stepd w S R T i e w' := fun hs ⟨h1, h2, h3⟩ => ⟨S, T, h1, h2, h3, fun _ h => .inl h, hs.symm, rfl, hG⟩
  have some_ : ∀ {e w' T'}, T'.vs = T.vs.step i → T'.bt = T.bt → 0 ≤ T'.mst → T'.mst ≤ T'.steps → Stepped w S R T' e w' → Stepd w S R T i e w' := fun hs hb h0 h1 ⟨h2, h3, h4⟩ => ⟨S, _, h2, h3, h4, fun _ h => .inl h, hs, hb, ⟨hs ▸ hG2, h0, h1⟩⟩
  cases ha : T.vs.askOf i with
  | none =>
    refine Calls.mono (R := Stepped w S R T) ?_ fun e w' => same (by unfold VS.step; rw [ha])
    refine Step_done w S R T h i ?_
    by_cases hi : T.work.length ≤ i
    · exact Done_out w S R T h i (.inr (by omega))
    · obtain ⟨l, hl⟩ : ∃ l, T.work[i]? = some l := ⟨T.work[i]'(by omega), List.getElem?_eq_getElem _⟩
      obtain ⟨k, hk⟩ : ∃ k, T.at_[i]? = some k := ⟨T.at_[i]'(by rw [h.len_at]; omega), List.getElem?_eq_getElem _⟩
      have h1 := VS.askOf_of (V := T.vs) hl hk
      rw [ha] at h1
      have h2 := hI.le i l k hl hk
      have h3 : k = l.length := by
        have := List.getElem?_eq_none_iff.1 h1.symm
        omega
      have := Done_in w S R T h i k l hl hk
      rwa [show decide (k = l.length) = true by simpa using h3] at this
  | some a =>
    obtain ⟨l, k, hl, hk, hak⟩ := VS.askOf_lt ha
    have hl : T.work[i]? = some l := hl
    have hk : T.at_[i]? = some k := hk
    have hwk := isWk_of hI ha
    have hkl : k < l.length := (List.getElem?_eq_some_iff.1 hak).1
    cases hx : T.vs.hands i with
    | none =>
      have hn := vs_none hx
      have hno : nextOf T i = 0 := by simp [nextOf, hn]
      obtain ⟨o, ho⟩ : ∃ o, T.own[shOf T a]? = some o := by
        have : shOf T a < T.own.length := by rw [show T.own.length = T.nsh from hI.len_own]; exact (shOf_eq h a).2
        exact ⟨_, List.getElem?_eq_getElem this⟩
      have hoi : o ≠ i := by
        rcases hI.owner _ o ho with h0 | ⟨j, z, b, h0, h2, _⟩
        · omega
        · intro e
          have : j = i := by omega
          subst this
          rw [hx] at h2
          cases h2
      have hW := fun n => Waits_lock (w.drewN n) S R T (h.drewN n) i k l a hl hk hak hno o ho hoi (own_ok hI _ o ho)
      by_cases ho1 : o = -1
      · subst ho1
        refine (Step_lock w S R T h i k l a hl hk hak hn hpl (by omega) hwk ho hm0 (by omega) hW).mono fun e w' ⟨blk, pv, h1, h2, h3⟩ => ?_
        have e1 : T.vs.step i = T.vs.lock i a := by
          unfold VS.step
          rw [ha]
          simp only [hx]
          exact if_pos ho
        have e2 : ((((T.begun i a blk pv).stepped.lockd (shOf T a) i).hand i ⟨blk, T.past.length, 1, false, 0⟩)).vs = T.vs.lock i a := by
          simp only [TS.vs, TS.hand, TS.stepped, TS.lockd, TS.begun, VS.lock]
          rw [vs_put, vs_put]
          congr 1
          funext j
          unfold put
          split <;> rfl
        exact ⟨_, _, h1, h2, h3, fun b hb => hb.imp id (fun h => h.1), e2.trans e1.symm, rfl, ⟨by rw [e2, ← e1]; exact hG2, by show 0 ≤ T.mst + 1; omega, by show T.mst + 1 ≤ ((T.steps + 1 : Nat) : Int); omega⟩⟩
      · rw [show (!decide (o = -1)) = true by simpa using ho1] at hW
        have e1 : T.vs.step i = T.vs := by
          unfold VS.step
          rw [ha]
          simp only [hx]
          exact if_neg (fun e => ho1 (Option.some.inj (ho.symm.trans e)))
        refine Calls.mono (R := Stepped w S R T) ?_ fun e w' => same e1
        refine Step_waits w S R T h i ?_ hW
        have := Done_in w S R T h i k l hl hk
        rwa [show decide (k = l.length) = false by simp; omega] at this
    | some y =>
      obtain ⟨x, hm, rfl⟩ := vs_some hx
      obtain ⟨b, hb, hat, hx1, hx5, hown⟩ := hI.held i _ hx
      rw [ha] at hb
      obtain rfl := Option.some.inj hb
      have hat : x.at_ < T.past.length := hat
      have hx1 : 1 ≤ x.next := hx1
      have hx5 : x.next ≤ 5 := hx5
      obtain ⟨c, hc⟩ : ∃ c, T.past[x.at_]? = some c := ⟨_, List.getElem?_eq_getElem hat⟩
      have hno : nextOf T i = x.next := by simp [nextOf, hm]
      have e0 : T.vs.step i = T.vs.held i a x.vh := by
        unfold VS.step
        rw [ha]
        simp only [hx]
      by_cases h5 : x.next = 5
      · have e1 : T.vs.held i a x.vh = if T.vs.isTold a.key then T.vs.end_ i x.vh ((mget T.values a.key).getD 0) 0 else T.vs := by
          unfold VS.held
          rw [show x.vh.next = 5 from h5]
          rfl
        have hW := fun n => Waits_told (w.drewN n) S R T (h.drewN n) i k l a hl hk hak (hno.trans h5)
        cases ht : T.vs.isTold a.key with
        | true =>
          rw [ht, if_pos rfl] at e1
          rw [show (!(mget T.told a.key).getD false) = false by rw [show (mget T.told a.key).getD false = true from ht]; rfl] at hW
          refine (Step_told w S R T i k l a x ⟨h, hl, hk, hak, hm, by omega, hW⟩ h5 _ c hc hpl _ rfl rfl).mono fun e w' => ?_
          exact some_ (by rw [e0, e1]; exact vs_ended T i k x c _ 0 hc hk) rfl hm0 (by show T.mst ≤ ((T.steps + 1 : Nat) : Int); omega)
        | false =>
          rw [ht, if_neg (by simp)] at e1
          rw [show (!(mget T.told a.key).getD false) = true by rw [show (mget T.told a.key).getD false = false from ht]; rfl] at hW
          refine Calls.mono (R := Stepped w S R T) ?_ fun e w' => same (e0.trans e1)
          refine Step_waits w S R T h i ?_ hW
          have := Done_in w S R T h i k l hl hk
          rwa [show decide (k = l.length) = false by simp; omega] at this
      · have hW : ∀ n, Calls Try.prog 18 #[.pointer (some ⟨T.bt, 0, none⟩), .int .i64 i] (w.drewN n) fun e w' => e = .returned (.bool false) ∧ Below (w.drewN n).heap.size (w.drewN n) w' := fun n =>
          (Waits_other (w.drewN n) S R T (h.drewN n) i k l hl hk hkl (by omega) (by omega)).mono fun e w' ⟨h1, m, h2⟩ => ⟨h1, by rw [h2]; exact bl_drewN (Below.refl _ _)⟩
        have hR : Ready w S R T i k l a x := ⟨h, hl, hk, hak, hm, by omega, hW⟩
        by_cases h1 : x.next = 1
        · have e1 : T.vs.held i a x.vh = T.vs.look i a x.vh := by
            unfold VS.held
            rw [if_pos (show x.vh.next = 1 from h1)]
          refine (Step_look w S R T i k l a x hR h1 _ _ rfl rfl _ rfl).mono fun e w' => ?_
          exact some_ (by rw [e0, e1]; exact vs_hand T i _) rfl hm0 (by show T.mst ≤ ((T.steps + 1 : Nat) : Int); omega)
        by_cases h2 : x.next = 2
        · have e1 : T.vs.held i a x.vh = { T.vs.hand i { x.vh with next := 3 } with values := mput T.values a.key a.value } := by
            unfold VS.held
            rw [if_neg (show ¬ x.vh.next = 1 from h1), if_pos (show x.vh.next = 2 from h2)]
            rfl
          refine (Step_put w S R T i k l a x hR h2 _ rfl).mono fun e w' => ?_
          exact some_ (by
            rw [e0, e1]
            simp only [TS.vs, TS.hand, TS.stepped, VS.hand, TS.putv]
            rw [vs_put]; rfl) rfl hm0 (by show T.mst ≤ ((T.steps + 1 : Nat) : Int); omega)
        by_cases h3 : x.next = 3
        · have e1 : T.vs.held i a x.vh = { T.vs.hand i { x.vh with next := 4 } with told := mput T.told a.key true } := by
            unfold VS.held
            rw [if_neg (show ¬ x.vh.next = 1 from h1), if_neg (show ¬ x.vh.next = 2 from h2), if_pos (show x.vh.next = 3 from h3)]
            rfl
          refine (Step_tell w S R T i k l a x hR h3 _ rfl).mono fun e w' => ?_
          exact some_ (by
            rw [e0, e1]
            simp only [TS.vs, TS.hand, TS.stepped, VS.hand, TS.tell]
            rw [vs_put]; rfl) rfl hm0 (by show T.mst ≤ ((T.steps + 1 : Nat) : Int); omega)
        have h4 : x.next = 4 := by omega
        have e1 : T.vs.held i a x.vh = T.vs.unlock i a x.vh := by
          unfold VS.held
          rw [if_neg (show ¬ x.vh.next = 1 from h1), if_neg (show ¬ x.vh.next = 2 from h2), if_neg (show ¬ x.vh.next = 3 from h3), if_pos (show x.vh.next = 4 from h4)]
        have ho : T.own[shOf T a]? = some (i : Int) := hown (show x.vh.next ≠ 5 by rw [show x.vh.next = 4 from h4]; decide)
        have fin : ∀ T', (∀ W, TableAt W S R (T.stepped.lockd (shOf T a) (-1)) → Calls Try.prog 53 #[.pointer (some ⟨T.bt, 0, none⟩), .int .i64 i, .pointer (some ⟨x.blk, 0, none⟩)] W (Stepped W S R T')) →
            T'.vs = T.vs.unlock i a x.vh → T'.bt = T.bt → T'.mst = T.mst + 1 → T'.steps = T.steps + 1 → Calls Try.prog 33 #[.pointer (some ⟨T.bt, 0, none⟩), .int .i64 i] w (Stepd w S R T i) := fun T' hu hv hb h6 h7 =>
          (Step_unlock w S R T i k l a x hR h4 T' hwk ho hm0 (by omega) hu).mono fun e w' => some_ (by rw [e0, e1]; exact hv) hb (by omega) (by omega)
        have hun : T.vs.unlock i a x.vh = if a.kind == 1 then (T.vs.unlocked a).end_ i x.vh 0 (if x.found then 5 else 0) else if x.found then (T.vs.unlocked a).end_ i x.vh x.v 0 else if a.kind == 2 then (T.vs.unlocked a).end_ i x.vh 0 4 else (T.vs.unlocked a).hand i { x.vh with next := 5 } := rfl
        have hend : ∀ n e, (((T.stepped.lockd (shOf T a) (-1)).ended i k x c n e)).vs = (T.vs.unlocked a).end_ i x.vh n e := fun n e => vs_ended (T.lockd (shOf T a) (-1)) i k x c n e hc hk
        cases hk1 : a.kind == 1 with
        | true =>
          rw [hk1, if_pos rfl] at hun
          cases hf : x.found with
          | true =>
            rw [hf, if_pos rfl] at hun
            exact fin _ (fun W hW => (unlocked_twice W S R _ hW i k l a x c hl hk hak hm hc hpl hk1 hf).mono fun _ _ ⟨q1, q2, q3⟩ => ⟨q1, q2, q3⟩) (by rw [hun]; exact hend 0 5) rfl rfl rfl
          | false =>
            rw [hf, if_neg (by simp)] at hun
            exact fin _ (fun W hW => (unlocked_put W S R _ hW i k l a x c hl hk hak hm hc hpl hk1 hf).mono fun _ _ ⟨q1, q2, q3⟩ => ⟨q1, q2, q3⟩) (by rw [hun]; exact hend 0 0) rfl rfl rfl
        | false =>
          rw [hk1, if_neg (by simp)] at hun
          cases hf : x.found with
          | true =>
            rw [hf, if_pos rfl] at hun
            exact fin _ (fun W hW => (unlocked_got W S R _ hW i k l a x c hl hk hak hm hc hpl hk1 hf).mono fun _ _ ⟨q1, q2, q3⟩ => ⟨q1, q2, q3⟩) (by rw [hun]; exact hend x.v 0) rfl rfl rfl
          | false =>
            rw [hf, if_neg (by simp)] at hun
            cases hk2 : a.kind == 2 with
            | true =>
              rw [hk2, if_pos rfl] at hun
              exact fin _ (fun W hW => (unlocked_none W S R _ hW i k l a x c hl hk hak hm hc hpl hk1 hk2 hf).mono fun _ _ ⟨q1, q2, q3⟩ => ⟨q1, q2, q3⟩) (by rw [hun]; exact hend 0 4) rfl rfl rfl
            | false =>
              rw [hk2, if_neg (by simp)] at hun
              exact fin _ (fun W hW => (unlocked_wait W S R _ hW i k l a x hl hk hak hm hk1 hk2 hf).mono fun _ _ ⟨q1, q2, q3⟩ => ⟨q1, q2, q3⟩) (by rw [hun]; exact vs_hand (T.lockd (shOf T a) (-1)) i _) rfl rfl rfl
end Go.Proofs.Ytimkoepaeebleaa
