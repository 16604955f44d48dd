/- A region that draws its order, walked once: what only looks is taken as early as may be, in every world that meets a condition S; what writes comes in the one order that the edges leave. S need not hold behind a write that waits for all that looks at the world. -/
import Derived.Test.YtimkoepaeebleaaKit
namespace Go.Proofs.Ytimkoepaeebleaa
open Go.RowKit

section
variable {P : Program} {ops : Array Oper} {Q : Exit → Act → World → Prop} {md : Region.Mode} {S : World → Prop} {kd : Array Nat}

/-- Does operation i wait for operation r by an edge of its own? -/
def waitsOn (md : Region.Mode) (ops : Array Oper) (i r : Nat) : Bool := match ops[i]? with
  | some o => o.after.any fun e => Region.binds md e && e.on == r
  | none => false
/-- Is there an operation that looks at the world for which i does not wait? -/
def needS (md : Region.Mode) (ops : Array Oper) (kd : Array Nat) (i : Nat) : Bool := (List.range ops.size).any fun r => decide (2 ≤ kd.getD r 0) && !waitsOn md ops i r
/-- Kind 1: in whatever world; else: in those that meet S. -/
def Sk (S : World → Prop) (k : Nat) (w : World) : Prop := if k = 1 then True else S w
theorem Sk_one (S : World → Prop) (w : World) : Sk S 1 w := by unfold Sk; rw [if_pos rfl]; trivial
theorem Sk_of {w : World} (h : S w) (k : Nat) : Sk S k w := by unfold Sk; split <;> trivial

/-- Whatever order is picked from here on. Kind 0: it may write; 1: it looks at no world; 2: it looks at the world, and leaves it. -/
def wpX (P : Program) (md : Region.Mode) (ops : Array Oper) (Q : Exit → Act → World → Prop) (S : World → Prop) (kd : Array Nat) : Nat → Array Bool → Act → World → Prop
  | 0, listed, a, w => Region.ready md ops listed = [] ∧ Q .normal a w
  | fuel + 1, listed, a, w => (Region.ready md ops listed = [] → Q .normal a w) ∧ ∀ i ∈ Region.ready md ops listed,
      (kd.getD i 0 = 0 → wpOp P ops Q i (fun a' w' => (needS md ops kd i = true → S w') ∧ wpX P md ops Q S kd fuel (listed.setIfInBounds i true) a' w') a w) ∧
      (kd.getD i 0 ≠ 0 → ∃ o v, ops[i]? = some o ∧ YieldsIf P ops (Sk S (kd.getD i 0)) o v a ∧ Sk S (kd.getD i 0) w ∧ wpX P md ops Q S kd fuel (listed.setIfInBounds i true) (a.put o.dst v) w)

theorem wpAny_of_X : ∀ (fuel : Nat) (listed : Array Bool) (a : Act) (w : World), wpX P md ops Q S kd fuel listed a w → wpAny P md ops Q fuel listed a w
  | 0, _, _, _, h => h
  | fuel + 1, listed, a, w, h => ⟨h.1, fun i hi => by
      by_cases hk : kd.getD i 0 = 0
      · exact wpOp_mono (fun a' w' h' => wpAny_of_X fuel _ a' w' h'.2) ((h.2 i hi).1 hk)
      · obtain ⟨o, v, ho, hy, hS, hx⟩ := (h.2 i hi).2 hk
        exact hy.wpOp ho hS (wpAny_of_X fuel _ _ _ hx)⟩

theorem wpX_first {i : Nat} {oi : Oper} {v : Value} (hi : ops[i]? = some oi) (hk : kd.getD i 0 ≠ 0) (hsel : ∀ (j : Nat) (o : Oper) cs b, ops[j]? = some o → o.op ≠ .select cs b)
    (hQ : ∀ c a w, Q (.panic c) (a.put oi.dst v) w → Q (.panic c) a w) :
    ∀ (fuel : Nat) (listed : Array Bool) (a : Act) (w : World),
      (∀ j oj, ops[j]? = some oj → j ≠ i → listed.getD j true = false → (∀ e ∈ oj.after, Region.binds md e = true → e.on ≠ i) → oi.apart ops oj = true) →
      i ∈ Region.ready md ops listed → YieldsIf P ops (Sk S (kd.getD i 0)) oi v a → Sk S (kd.getD i 0) w →
      wpX P md ops Q S kd fuel (listed.setIfInBounds i true) (a.put oi.dst v) w → wpX P md ops Q S kd (fuel + 1) listed a w := by
  intro fuel
  induction fuel with
  | zero =>
    intro listed a w _ hr hy hS H
    refine ⟨fun h => (by rw [h] at hr; cases hr), fun j hj => ?_⟩
    by_cases hji : j = i
    · subst hji
      exact ⟨fun h => absurd h hk, fun _ => ⟨oi, v, hi, hy, hS, H⟩⟩
    · have := ready_mono hj hji
      rw [H.1] at this
      cases this
  | succ fuel ih =>
    intro listed a w hfree hr hy hS H
    refine ⟨fun h => (by rw [h] at hr; cases hr), fun j hj => ?_⟩
    by_cases hji : j = i
    · subst hji
      exact ⟨fun h => absurd h hk, fun _ => ⟨oi, v, hi, hy, hS, H⟩⟩
    · have h1 := H.2 j (ready_mono hj hji)
      obtain ⟨hjun, oj, hoj, hall⟩ := mem_ready.1 hj
      have hnot : ∀ e ∈ oj.after, Region.binds md e = true → e.on ≠ i := fun e he hb heq => by
        have h1 := hall e he hb
        have h0 := (mem_ready.1 hr).1
        rw [heq] at h1
        rcases Nat.lt_or_ge i listed.size with h' | h'
        · simp [h'] at h0 h1; rw [h0] at h1; cases h1
        · simp [Array.getElem?_eq_none h'] at h1
      have hap := hfree j oj hoj hji hjun hnot
      have hfree' : ∀ k ok, ops[k]? = some ok → k ≠ i → (listed.setIfInBounds j true).getD k true = false →
          (∀ e ∈ ok.after, Region.binds md e = true → e.on ≠ i) → oi.apart ops ok = true := fun k ok hk hki hun hno => by
        refine hfree k ok hk hki ?_ hno
        by_cases hjk : j = k
        · subst hjk; exact hjun
        · have : (listed.setIfInBounds j true).getD k true = listed.getD k true := by simp [Array.getElem?_setIfInBounds, hjk]
          rw [this] at hun; exact hun
      refine ⟨fun hkj => ?_, fun hkj => ?_⟩
      · have h2 := wpOp_putIf hoj hap (fun cs b => hsel i oi cs b hi) (fun cs b => hsel j oj cs b hoj) hQ hy (h1.1 hkj)
        refine wpOp_mono (fun a' w' h3 => ⟨h3.2.1, ih (listed.setIfInBounds j true) a' w' hfree' (ready_mono hr (Ne.symm hji)) h3.1 ?_ ?_⟩) h2
        · by_cases hk1 : kd.getD i 0 = 1
          · rw [hk1]; trivial
          · refine Sk_of (h3.2.1 ?_) _
            unfold needS
            rw [List.any_eq_true]
            refine ⟨i, List.mem_range.2 (Array.getElem?_eq_some_iff.1 hi).1, ?_⟩
            have hw : waitsOn md ops j i = false := by
              unfold waitsOn
              simp only [hoj]
              rw [Array.any_eq_false']
              intro e he hc
              simp only [Bool.and_eq_true, beq_iff_eq] at hc
              exact hnot e he hc.1 hc.2
            rw [hw]
            simp only [Bool.not_false, Bool.and_true, decide_eq_true_eq]
            omega
        · rw [Array.setIfInBounds_comm _ _ hji]
          exact h3.2.2
      · obtain ⟨oj', vj, hoj', hyj, hSj, hX⟩ := h1.2 hkj
        obtain rfl : oj = oj' := Option.some.inj (hoj.symm.trans hoj')
        obtain ⟨e1, e2, e3⟩ := Oper.apart_spec hap
        refine ⟨oj, vj, hoj, ?_, hSj, ?_⟩
        · exact hyj.of_same (execOp_put oj (fun cs b => hsel j oj cs b hoj) a oi.dst v e1).symm (wanted_put oj a oi.dst v e1).symm
        · refine ih _ _ _ hfree' (ready_mono hr (Ne.symm hji)) (hy.of_same (execOp_put oi (fun cs b => hsel i oi cs b hi) a oj.dst vj e3) (wanted_put oi a oj.dst vj e3)) hS ?_
          rw [Array.setIfInBounds_comm _ _ hji, ← Act.put_comm a v vj e2]
          exact hX

/-- The walk in one order. -/
def wpOrd (P : Program) (md : Region.Mode) (ops : Array Oper) (Q : Exit → Act → World → Prop) (S : World → Prop) (kd : Array Nat) : List Nat → Act → World → Prop
  | [], a, w => Q .normal a w
  | i :: rest, a, w =>
      (kd.getD i 0 = 0 → wpOp P ops Q i (fun a' w' => (needS md ops kd i = true → S w') ∧ wpOrd P md ops Q S kd rest a' w') a w) ∧
      (kd.getD i 0 ≠ 0 → ∃ o v, ops[i]? = some o ∧ YieldsIf P ops (Sk S (kd.getD i 0)) o v a ∧ Sk S (kd.getD i 0) w ∧ wpOrd P md ops Q S kd rest (a.put o.dst v) w)
def ordOk (md : Region.Mode) (ops : Array Oper) (kd : Array Nat) : List Nat → Array Bool → Bool
  | [], listed => (Region.ready md ops listed).isEmpty
  | i :: rest, listed =>
    (if kd.getD i 0 = 0 then Region.ready md ops listed == [i] else (Region.ready md ops listed).contains i && Region.free md ops listed i) && ordOk md ops kd rest (listed.setIfInBounds i true)

theorem wpX_of_ord (hsel : ∀ (j : Nat) (o : Oper) cs b, ops[j]? = some o → o.op ≠ .select cs b) (hQ : ∀ c (a : Act) d v w, Q (.panic c) (a.put d v) w → Q (.panic c) a w) :
    ∀ (ord : List Nat) (listed : Array Bool) (a : Act) (w : World), ordOk md ops kd ord listed = true → wpOrd P md ops Q S kd ord a w → wpX P md ops Q S kd ord.length listed a w
  | [], listed, a, w, hok, h => by
    simp only [ordOk, List.isEmpty_iff] at hok
    exact ⟨hok, h⟩
  | i :: rest, listed, a, w, hok, h => by
    simp only [ordOk, Bool.and_eq_true] at hok
    obtain ⟨h1, h2⟩ := hok
    by_cases hk : kd.getD i 0 = 0
    · rw [if_pos hk] at h1
      have hr : Region.ready md ops listed = [i] := by simpa using h1
      refine ⟨fun h => (by rw [hr] at h; cases h), fun j hj => ?_⟩
      rw [hr] at hj
      obtain rfl := List.mem_singleton.1 hj
      exact ⟨fun _ => wpOp_mono (fun a' w' h' => ⟨h'.1, wpX_of_ord hsel hQ rest _ a' w' h2 h'.2⟩) (h.1 hk), fun h => absurd hk h⟩
    · rw [if_neg hk, Bool.and_eq_true] at h1
      obtain ⟨o, v, ho, hy, hS, hx⟩ := h.2 hk
      exact wpX_first ho hk hsel (fun c a w => hQ c a _ _ w) _ _ _ _ (Region.free_spec ho h1.2) (by simpa using h1.1) hy hS (wpX_of_ord hsel hQ rest _ _ _ h2 hx)

/-- THE BEGINNING. -/
theorem wp_region_ord {id : Nat} {a : Act} {w : World} (S : World → Prop) (kd : Array Nat) (ord : List Nat) (hm : P.follows .mixedOrders = true) (hs : Region.noSelect ops = true) (hl : (ord.length == ops.size) = true)
    (hok : ordOk .any ops kd ord (Array.replicate ops.size false) = true) (hQ : ∀ c (a : Act) d v w, Q (.panic c) (a.put d v) w → Q (.panic c) a w)
    (hS : S w.drew) (h : S w.drew → wpOrd P .any ops Q S kd ord a w.drew) : (Code.region id ops true).wp P Q a w := by
  have hl' : ord.length = ops.size := by simpa using hl
  have h1 := wpAny_of_X _ _ _ _ (wpX_of_ord (Region.noSelect_spec hs) hQ ord _ _ _ hok (h hS))
  rw [hl'] at h1
  exact wp_region_any hm h1

/-! ### The operations written out, in the order in which they come -/
def nth : List Oper → Nat → Oper
  | [], _ => default
  | o :: _, 0 => o
  | _ :: l, n + 1 => nth l n
def nthK : List Nat → Nat → Nat
  | [], _ => 0
  | k :: _, 0 => k
  | _ :: l, n + 1 => nthK l n
/-- Each one's kind (3: a write behind which S need not hold), and its operation. -/
def rowsOf (ops : List Oper) (kd : List Nat) (ord : List Nat) : List (Nat × Oper) := ord.map fun i => (nthK kd i, nth ops i)
/-- The kinds as above. -/
def kinds (kd : List Nat) : Array Nat := (kd.map fun k => if k = 3 then 0 else k).toArray
def wpRows (P : Program) (ops : Array Oper) (Q : Exit → Act → World → Prop) (S : World → Prop) : List (Nat × Oper) → Act → World → Prop
  | [], a, w => Q .normal a w
  | (k, o) :: rest, a, w =>
      (k = 0 ∨ k = 3 → if Region.wanted o (yielded ops a.tmps) then o.wp P a w (fun a' w' => (k = 0 → S w') ∧ wpRows P ops Q S rest a' w') Q else (k = 0 → S w) ∧ wpRows P ops Q S rest (a.put o.dst undef) w) ∧
      (k ≠ 0 ∧ k ≠ 3 → ∃ v, YieldsIf P ops (Sk S k) o v a ∧ Sk S k w ∧ wpRows P ops Q S rest (a.put o.dst v) w)
theorem nth_eq : ∀ (l : List Oper) (i : Nat), i < l.length → l[i]? = some (nth l i)
  | [], _, h => by simp at h
  | o :: l, 0, _ => rfl
  | o :: l, n + 1, h => by
    rw [List.getElem?_cons_succ]
    exact nth_eq l n (by simpa using h)
theorem nthK_eq : ∀ (l : List Nat) (i : Nat), nthK l i = (l[i]?).getD 0
  | [], _ => rfl
  | k :: l, 0 => rfl
  | k :: l, n + 1 => by rw [nthK, nthK_eq l n, List.getElem?_cons_succ]
theorem kinds_at (kd : List Nat) (i : Nat) : (kinds kd).getD i 0 = if nthK kd i = 3 then 0 else nthK kd i := by
  rw [nthK_eq]
  cases h : kd[i]? <;> simp [kinds, h]
theorem ord_of_rows {kd : List Nat} : ∀ (ord : List Nat) (a : Act) (w : World), (∀ i ∈ ord, i < ops.size ∧ (nthK kd i = 3 → needS md ops (kinds kd) i = false)) → wpRows P ops Q S (rowsOf ops.toList kd ord) a w → wpOrd P md ops Q S (kinds kd) ord a w
  | [], _, _, _, h => h
  | i :: rest, a, w, hlt, h => by
    have hi : ops[i]? = some (nth ops.toList i) := by
      have := nth_eq ops.toList i (by simpa using (hlt i (by simp)).1)
      simpa using this
    have h3 := (hlt i (by simp)).2
    obtain ⟨h0, h1⟩ := h
    have hr : ∀ j ∈ rest, j < ops.size ∧ (nthK kd j = 3 → needS md ops (kinds kd) j = false) := fun j hj => hlt j (List.mem_cons_of_mem _ hj)
    have hneed : needS md ops (kinds kd) i = true → nthK kd i ≠ 3 := fun hn h => by rw [h3 h] at hn; cases hn
    refine ⟨fun hk0 => ?_, fun hk0 => ?_⟩
    · rw [kinds_at] at hk0
      have hk : nthK kd i = 0 ∨ nthK kd i = 3 := by split at hk0 <;> simp_all
      have h2 := h0 hk
      unfold wpOp
      simp only [hi]
      split
      · rename_i hw
        rw [if_pos hw] at h2
        exact .inl (Oper.wp_mono (fun a' w' h4 => ⟨fun hn => h4.1 (hk.resolve_right (hneed hn)), ord_of_rows rest a' w' hr h4.2⟩) h2)
      · rename_i hw
        rw [if_neg hw] at h2
        exact ⟨fun hn => h2.1 (hk.resolve_right (hneed hn)), ord_of_rows rest _ _ hr h2.2⟩
    · rw [kinds_at] at hk0 ⊢
      have hk : nthK kd i ≠ 0 ∧ nthK kd i ≠ 3 := by split at hk0 <;> simp_all
      rw [if_neg hk.2]
      obtain ⟨v, hy, hS, hx⟩ := h1 hk
      exact ⟨_, v, hi, hy, hS, ord_of_rows rest _ _ hr hx⟩

def rowsOk (ops : Array Oper) (kd ord : List Nat) : Bool := ord.length == ops.size && ord.all (fun i => decide (i < ops.size) && (!(nthK kd i == 3) || !needS .any ops (kinds kd) i)) && ordOk .any ops (kinds kd) ord (Array.replicate ops.size false)
/-- THE BEGINNING: the rows are to be written out. -/
theorem wp_region_rows {id : Nat} {a : Act} {w : World} {l : List Oper} (S : World → Prop) (kd ord : List Nat) (hm : P.follows .mixedOrders = true) (hs : Region.noSelect l.toArray = true) (hok : rowsOk l.toArray kd ord = true)
    (hQ : ∀ c (a : Act) d v w, Q (.panic c) (a.put d v) w → Q (.panic c) a w)
    (hS : S w.drew) (h : S w.drew → wpRows P l.toArray Q S (rowsOf l kd ord) a w.drew) : (Code.region id l.toArray true).wp P Q a w := by
  unfold rowsOk at hok
  rw [Bool.and_eq_true, Bool.and_eq_true] at hok
  obtain ⟨⟨h1, h2⟩, h3⟩ := hok
  refine wp_region_ord S (kinds kd) ord hm hs h1 h3 hQ hS fun hS' => ord_of_rows ord a w.drew (fun i hi => ?_) (h hS')
  have := List.all_eq_true.1 h2 i hi
  simp only [Bool.and_eq_true, decide_eq_true_eq, Bool.or_eq_true, Bool.not_eq_true'] at this
  refine ⟨this.1, fun h => ?_⟩
  rcases this.2 with h' | h'
  · rw [h] at h'; cases h'
  · exact h'

/-! ### The moves of the walk -/
section
variable {rest : List (Nat × Oper)} {o : Oper} {v : Value} {a : Act} {w : World}
theorem row_done (h : Q .normal a w) : wpRows P ops Q S [] a w := h
theorem row_pure (hw : Region.wanted o (yielded ops a.tmps) = true) (hy : ∀ W, (execOp a.eval o).run P W = .ok (.value v) W) (h : wpRows P ops Q S rest (a.put o.dst v) w) : wpRows P ops Q S ((1, o) :: rest) a w :=
  ⟨fun h0 => (by rcases h0 with h0 | h0 <;> cases h0), fun _ => ⟨v, .inl ⟨hw, fun W _ => hy W⟩, Sk_one S w, h⟩⟩
theorem row_load (hw : Region.wanted o (yielded ops a.tmps) = true) (hS : S w) (hy : ∀ W, S W → (execOp a.eval o).run P W = .ok (.value v) W) (h : wpRows P ops Q S rest (a.put o.dst v) w) : wpRows P ops Q S ((2, o) :: rest) a w :=
  ⟨fun h0 => (by rcases h0 with h0 | h0 <;> cases h0), fun _ => ⟨v, .inl ⟨hw, fun W hW => hy W hW⟩, hS, h⟩⟩
theorem row_skip1 (hw : Region.wanted o (yielded ops a.tmps) = false) (h : wpRows P ops Q S rest (a.put o.dst undef) w) : wpRows P ops Q S ((1, o) :: rest) a w :=
  ⟨fun h0 => (by rcases h0 with h0 | h0 <;> cases h0), fun _ => ⟨undef, .inr ⟨hw, rfl⟩, Sk_one S w, h⟩⟩
theorem row_skip2 (hw : Region.wanted o (yielded ops a.tmps) = false) (hS : S w) (h : wpRows P ops Q S rest (a.put o.dst undef) w) : wpRows P ops Q S ((2, o) :: rest) a w :=
  ⟨fun h0 => (by rcases h0 with h0 | h0 <;> cases h0), fun _ => ⟨undef, .inr ⟨hw, rfl⟩, hS, h⟩⟩
/-- A write behind which S is shown anew. -/
theorem row_write (hw : Region.wanted o (yielded ops a.tmps) = true)
    (h : ∀ K : Act → World → Prop, (∀ a' w', S w' → (S w' → wpRows P ops Q S rest a' w') → K a' w') → o.wp P a w K Q) : wpRows P ops Q S ((0, o) :: rest) a w :=
  ⟨fun _ => by rw [if_pos hw]; exact h _ fun a' w' hS hn => ⟨fun _ => hS, hn hS⟩, fun h0 => absurd rfl h0.1⟩
/-- A write that waits for all that looks at the world. -/
theorem row_last (hw : Region.wanted o (yielded ops a.tmps) = true)
    (h : ∀ K : Act → World → Prop, (∀ a' w', wpRows P ops Q S rest a' w' → K a' w') → o.wp P a w K Q) : wpRows P ops Q S ((3, o) :: rest) a w :=
  ⟨fun _ => by rw [if_pos hw]; exact h _ fun a' w' hh => ⟨fun h0 => (by cases h0), hh⟩, fun h0 => absurd rfl h0.2⟩
theorem row_skip0 (hw : Region.wanted o (yielded ops a.tmps) = false) (hS : S w) (h : wpRows P ops Q S rest (a.put o.dst undef) w) : wpRows P ops Q S ((0, o) :: rest) a w :=
  ⟨fun _ => by rw [if_neg (by simp [hw])]; exact ⟨fun _ => hS, h⟩, fun h0 => absurd rfl h0.1⟩
theorem row_skip3 (hw : Region.wanted o (yielded ops a.tmps) = false) (h : wpRows P ops Q S rest (a.put o.dst undef) w) : wpRows P ops Q S ((3, o) :: rest) a w :=
  ⟨fun _ => by rw [if_neg (by simp [hw])]; exact ⟨fun h0 => (by cases h0), h⟩, fun h0 => absurd rfl h0.2⟩
end
end
end Go.Proofs.Ytimkoepaeebleaa
