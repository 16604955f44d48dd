/- How far a run can go: each step that is one brings the calls on. -/
import Derived.Test.YtimkoepaeebleaaShPure
import Derived.Test.YtimkoepaeebleaaShTbl
namespace Go.Proofs.Ytimkoepaeebleaa
namespace VS

theorem step_done {V : VS} {i : Nat} (h : V.done i = true) : V.step i = V := by
  unfold VS.step
  unfold VS.done at h
  cases ha : V.askOf i with
  | none => rfl
  | some a => rw [ha] at h; cases h
theorem step_waits {V : VS} {i : Nat} (hI : V.Inv) (h : V.waits i = true) : V.step i = V := by
  unfold VS.step
  unfold VS.waits at h
  cases ha : V.askOf i with
  | none => rfl
  | some a =>
    rw [ha] at h
    cases hx : V.hands i with
    | none =>
      rw [hx] at h
      simp only at h ⊢
      rw [if_neg (by simpa using h)]
    | some x =>
      rw [hx] at h
      simp only [Bool.and_eq_true, decide_eq_true_eq, Bool.not_eq_true'] at h
      show V.held i a x = V
      unfold VS.held
      rw [if_neg (by omega), if_neg (by omega), if_neg (by omega), if_neg (by omega), if_neg (by simp [h.2])]

def prog (V : VS) (i : Nat) : Nat := match V.hands i with | none => 0 | some x => x.next.toNat
def weight (V : VS) (i : Nat) : Nat := 6 * (V.at_[i]?.getD 0) + V.prog i
def wsum (V : VS) : Nat := ((List.range V.work.length).map V.weight).sum
theorem sum_range_le (n : Nat) (f g : Nat → Nat) (h : ∀ i, i < n → f i ≤ g i) : ((List.range n).map f).sum ≤ ((List.range n).map g).sum := by
  induction n with
  | zero => simp
  | succ n ih =>
    rw [List.range_succ, List.map_append, List.map_append, List.sum_append, List.sum_append]
    have h1 := ih fun i hi => h i (by omega)
    have h2 := h n (by omega)
    simp
    omega
theorem sum_range_lt (n i : Nat) (f g : Nat → Nat) (hi : i < n) (h : ∀ j, j < n → j ≠ i → f j ≤ g j) (hs : f i + 1 ≤ g i) : ((List.range n).map f).sum + 1 ≤ ((List.range n).map g).sum := by
  induction n with
  | zero => omega
  | succ n ih =>
    rw [List.range_succ, List.map_append, List.map_append, List.sum_append, List.sum_append]
    by_cases hn : i = n
    · subst hn
      have h1 := sum_range_le i f g fun j hj => h j (by omega) (by omega)
      simp
      omega
    · have h1 := ih (by omega) fun j hj hne => h j (by omega) hne
      have h2 := h n (by omega) (by omega)
      simp
      omega

theorem at_modify (l : List Nat) (i j : Nat) : (l.modify i (· + 1))[j]?.getD 0 = if i = j ∧ j < l.length then l[j]?.getD 0 + 1 else l[j]?.getD 0 := by
  rw [List.getElem?_modify]
  by_cases hj : j < l.length
  · rw [List.getElem?_eq_getElem hj]
    by_cases hij : i = j <;> simp [hij, hj]
  · rw [List.getElem?_eq_none (by omega)]
    simp [hj]

/-- A step that is one. -/
theorem step_real {V : VS} {i : Nat} (hI : V.Inv) (hd : V.done i = false) (hw : V.waits i = false) :
    (V.step i).steps = V.steps + 1 ∧ (∀ j, j ≠ i → (V.step i).weight j = V.weight j) ∧ V.weight i + 1 ≤ (V.step i).weight i := by
  unfold VS.done at hd
  cases ha : V.askOf i with
  | none => rw [ha] at hd; cases hd
  | some a =>
    obtain ⟨l, k, hl, hk, hlk⟩ := askOf_lt ha
    have hil : i < V.at_.length := (List.getElem?_eq_some_iff.1 hk).1
    unfold VS.waits at hw
    rw [ha] at hw
    have hend : ∀ (own' : List Int) (x : VH) (n e : Int), V.hands i = some x → x.next ≤ 5 → (VS.end_ { V with own := own' } i x n e).steps = V.steps + 1 ∧ (∀ j, j ≠ i → (VS.end_ { V with own := own' } i x n e).weight j = V.weight j) ∧ V.weight i + 1 ≤ (VS.end_ { V with own := own' } i x n e).weight i := by
      intro own' x n e hx h5
      refine ⟨rfl, fun j hj => ?_, ?_⟩
      · have e1 : (V.at_.modify i (· + 1))[j]?.getD 0 = V.at_[j]?.getD 0 := by rw [at_modify, if_neg (by omega)]
        simp only [weight, prog, VS.end_, put_other _ _ _ _ hj, e1]
      · have e1 : (V.at_.modify i (· + 1))[i]?.getD 0 = V.at_[i]?.getD 0 + 1 := by rw [at_modify, if_pos ⟨rfl, hil⟩]
        simp only [weight, prog, VS.end_, put_same, e1, hx]
        omega
    have hhand : ∀ (W : VS) (x y : VH), W.steps = V.steps + 1 → W.at_ = V.at_ → W.hands = put V.hands i (some y) → V.hands i = some x → x.next < y.next → 0 ≤ x.next → W.steps = V.steps + 1 ∧ (∀ j, j ≠ i → W.weight j = V.weight j) ∧ V.weight i + 1 ≤ W.weight i := by
      intro W x y h1 h2 h3 hx hlt h0
      refine ⟨h1, fun j hj => ?_, ?_⟩
      · simp only [weight, prog, h2, h3, put_other _ _ _ _ hj]
      · simp only [weight, prog, h2, h3, put_same, hx]
        omega
    cases hx : V.hands i with
    | none =>
      rw [hx] at hw
      have ho : V.own[shNo V.nsh a]? = some (-1) := by simpa using hw
      have e1 : V.step i = V.lock i a := by
        unfold VS.step
        rw [ha]
        simp only [hx]
        exact if_pos ho
      rw [e1]
      refine ⟨rfl, fun j hj => ?_, ?_⟩
      · simp only [weight, prog, VS.lock, put_other _ _ _ _ hj]
      · simp only [weight, prog, VS.lock, put_same, hx]
        simp
    | some x =>
      rw [hx] at hw
      obtain ⟨b, hb, hat, hx1, hx5, hown⟩ := hI.held i x hx
      have e0 : V.step i = V.held i a x := by
        unfold VS.step
        rw [ha]
        simp only [hx]
      rw [e0]
      unfold VS.held
      split
      · rename_i h1
        refine hhand _ x { x with v := (mget V.values a.key).getD 0, found := (mget V.values a.key).isSome, next := if a.kind == 1 && !(mget V.values a.key).isSome then 2 else 4 } rfl rfl rfl hx ?_ (by omega)
        simp only
        split <;> omega
      split
      · exact hhand _ x { x with next := 3 } rfl rfl rfl hx (by simp; omega) (by omega)
      split
      · exact hhand _ x { x with next := 4 } rfl rfl rfl hx (by simp; omega) (by omega)
      split
      · unfold VS.unlock VS.unlocked
        split
        · exact hend _ x _ _ hx hx5
        split
        · exact hend _ x _ _ hx hx5
        split
        · exact hend _ x _ _ hx hx5
        · exact hhand _ x { x with next := 5 } rfl rfl rfl hx (by simp; omega) (by omega)
      split
      · exact hend V.own x _ _ hx hx5
      · rename_i h1 h2 h3 h4 h5
        have h55 : x.next = 5 := by omega
        simp [h55] at hw
        rw [hw] at h5
        exact absurd rfl h5

theorem work_step (V : VS) (i : Nat) : (V.step i).work = V.work := (step_steps V i).2.2.1
theorem real_lt {V : VS} {i : Nat} (hd : V.done i = false) : i < V.work.length := by
  unfold VS.done at hd
  cases ha : V.askOf i with
  | none => rw [ha] at hd; cases hd
  | some a =>
    obtain ⟨l, k, hl, _, _⟩ := askOf_lt ha
    exact (List.getElem?_eq_some_iff.1 hl).1
/-- As many steps as the calls were brought on, at most. -/
def Pot (V : VS) : Prop := V.steps ≤ V.wsum
theorem Pot.step {V : VS} (h : V.Pot) (hI : V.Inv) (i : Nat) : (V.step i).Pot := by
  cases hd : V.done i with
  | true => rw [step_done hd]; exact h
  | false =>
    cases hw : V.waits i with
    | true => rw [step_waits hI hw]; exact h
    | false =>
      obtain ⟨h1, h2, h3⟩ := step_real hI hd hw
      have h4 := sum_range_lt V.work.length i V.weight (V.step i).weight (real_lt hd) (fun j _ hj => by rw [h2 j hj]; exact Nat.le_refl _) h3
      unfold Pot wsum at *
      rw [work_step, h1]
      omega
theorem wsum_le {V : VS} (hI : V.Inv) : V.wsum ≤ 6 * total V.work := by
  have h1 : V.wsum ≤ ((List.range V.work.length).map (fun i => 6 * (V.work[i]?.map List.length).getD 0)).sum := by
    refine sum_range_le _ _ _ fun i hi => ?_
    obtain ⟨l, hl⟩ : ∃ l, V.work[i]? = some l := ⟨_, List.getElem?_eq_getElem hi⟩
    obtain ⟨k, hk⟩ : ∃ k, V.at_[i]? = some k := ⟨V.at_[i]'(by rw [hI.len_at]; exact hi), List.getElem?_eq_getElem _⟩
    have hle := hI.le i l k hl hk
    unfold weight prog
    rw [hl, hk]
    cases hx : V.hands i with
    | none => simp; omega
    | some x =>
      obtain ⟨b, hb, _, hx1, hx5, _⟩ := hI.held i x hx
      rw [askOf_of hl hk] at hb
      have := (List.getElem?_eq_some_iff.1 hb).1
      simp
      omega
  have h2 : ∀ w : List (List Ask), ((List.range w.length).map (fun i => 6 * (w[i]?.map List.length).getD 0)).sum = 6 * total w := by
    intro w
    have e : (List.range w.length).map (fun i => 6 * (w[i]?.map List.length).getD 0) = w.map (fun l => 6 * l.length) := by
      refine List.ext_getElem? fun i => ?_
      rw [List.getElem?_map, List.getElem?_map]
      by_cases hi : i < w.length
      · rw [List.getElem?_range hi]
        simp [List.getElem?_eq_getElem hi]
      · rw [List.getElem?_eq_none (by simpa using hi), List.getElem?_eq_none (by omega)]
        rfl
    rw [e]
    clear e
    unfold total
    induction w with
    | nil => rfl
    | cons l w ih => simp only [List.map_cons, List.sum_cons]; omega
  rw [h2] at h1
  exact h1
theorem Pot.bound {V : VS} (h : V.Pot) (hI : V.Inv) : V.steps ≤ 6 * total V.work := Nat.le_trans h (wsum_le hI)
theorem init_pot (shards : Nat) (work : List (List Ask)) : (⟨shards, work, List.replicate shards (-1), List.replicate work.length 0, fun _ => none, [], [], [], 0⟩ : VS).Pot := Nat.zero_le _
/-- Nobody can go on. -/
def Quiet (V : VS) : Prop := ∀ i, i < V.work.length → V.done i = true ∨ V.waits i = true
end VS
end Go.Proofs.Ytimkoepaeebleaa
