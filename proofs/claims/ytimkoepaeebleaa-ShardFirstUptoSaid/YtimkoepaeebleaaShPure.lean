/- The table as a plain machine: what a step does, and what stays true. -/
import Derived.Test.YtimkoepaeebleaaShEnd
import Derived.Test.YtimkoepaeebleaaShTab2
namespace Go.Proofs.Ytimkoepaeebleaa
set_option linter.unusedVariables false

structure VH where
  at_ : Nat
  next : Int
  found : Bool
  v : Int
structure VS where
  nsh : Nat
  work : List (List Ask)
  own : List Int
  at_ : List Nat
  hands : Nat → Option VH
  values : List (ByteArray × Int)
  told : List (ByteArray × Bool)
  past : List CallR
  steps : Nat
def Hand.vh (x : Hand) : VH := ⟨x.at_, x.next, x.found, x.v⟩
def TS.vs (T : TS) : VS := ⟨T.nsh, T.work, T.own, T.at_, fun i => (mget T.hands i).map Hand.vh, T.values, T.told, T.past, T.steps⟩
/-- A name's shard. -/
def shNo (n : Nat) (a : Ask) : Nat := (ofL a.key.data.toList n).toNat
theorem shNo_lt (n : Nat) (a : Ask) (h : 1 ≤ n) : shNo n a < n := by
  have := ofL_bounds a.key.data.toList n (by omega)
  unfold shNo; omega
def put {α : Type} (f : Nat → α) (i : Nat) (x : α) : Nat → α := fun j => if j = i then x else f j
theorem put_same {α : Type} (f : Nat → α) (i : Nat) (x : α) : put f i x i = x := by simp [put]
theorem put_other {α : Type} (f : Nat → α) (i j : Nat) (x : α) (h : j ≠ i) : put f i x j = f j := by simp [put, h]
namespace VS
/-- The call that a worker has in hand, or would begin; none: it is done. -/
def askOf (V : VS) (i : Nat) : Option Ask := match V.work[i]?, V.at_[i]? with
  | some l, some k => l[k]?
  | _, _ => none
def done (V : VS) (i : Nat) : Bool := (V.askOf i).isNone
def isTold (V : VS) (key : ByteArray) : Bool := (mget V.told key).getD false
def waits (V : VS) (i : Nat) : Bool := match V.askOf i with
  | none => false
  | some a => match V.hands i with
    | none => !decide (V.own[shNo V.nsh a]? = some (-1))
    | some x => decide (x.next = 5) && !V.isTold a.key
/-- The call in hand ends. -/
def end_ (V : VS) (i : Nat) (x : VH) (n e : Int) : VS :=
  { V with hands := put V.hands i none, past := V.past.modify x.at_ (fun c => setCall c (V.steps + 1 : Nat) n e), at_ := V.at_.modify i (· + 1), steps := V.steps + 1 }
def hand (V : VS) (i : Nat) (x : VH) : VS := { V with hands := put V.hands i (some x), steps := V.steps + 1 }
def lock (V : VS) (i : Nat) (a : Ask) : VS :=
  { V with hands := put V.hands i (some ⟨V.past.length, 1, false, 0⟩), past := V.past ++ [⟨i, a.kind, a.key, a.value, V.steps, -1, 0, 0⟩], own := V.own.set (shNo V.nsh a) i, steps := V.steps + 1 }
def look (V : VS) (i : Nat) (a : Ask) (x : VH) : VS :=
  V.hand i { x with v := (mget V.values a.key).getD 0, found := (mget V.values a.key).isSome, next := if a.kind == 1 && !(mget V.values a.key).isSome then 2 else 4 }
def unlocked (V : VS) (a : Ask) : VS := { V with own := V.own.set (shNo V.nsh a) (-1) }
def unlock (V : VS) (i : Nat) (a : Ask) (x : VH) : VS :=
  if a.kind == 1 then (V.unlocked a).end_ i x 0 (if x.found then 5 else 0)
  else if x.found then (V.unlocked a).end_ i x x.v 0
  else if a.kind == 2 then (V.unlocked a).end_ i x 0 4
  else (V.unlocked a).hand i { x with next := 5 }
def held (V : VS) (i : Nat) (a : Ask) (x : VH) : VS :=
  if x.next = 1 then V.look i a x
  else if x.next = 2 then { V.hand i { x with next := 3 } with values := mput V.values a.key a.value }
  else if x.next = 3 then { V.hand i { x with next := 4 } with told := mput V.told a.key true }
  else if x.next = 4 then V.unlock i a x
  else if V.isTold a.key then V.end_ i x ((mget V.values a.key).getD 0) 0 else V
def step (V : VS) (i : Nat) : VS := match V.askOf i with
  | none => V
  | some a => match V.hands i with
    | none => if V.own[shNo V.nsh a]? = some (-1) then V.lock i a else V
    | some x => V.held i a x

structure Inv (V : VS) : Prop where
  len_own : V.own.length = V.nsh
  pos : 1 ≤ V.nsh
  len_at : V.at_.length = V.work.length
  len_w : V.work.length ≤ 64
  le : ∀ (i : Nat) (l : List Ask) (k : Nat), V.work[i]? = some l → V.at_[i]? = some k → k ≤ l.length
  held : ∀ i x, V.hands i = some x → ∃ a, V.askOf i = some a ∧ x.at_ < V.past.length ∧ 1 ≤ x.next ∧ x.next ≤ 5 ∧ (x.next ≠ 5 → V.own[shNo V.nsh a]? = some (i : Int))
  owner : ∀ (s : Nat) (o : Int), V.own[s]? = some o → o = -1 ∨ ∃ (j : Nat) (x : VH) (a : Ask), o = j ∧ V.hands j = some x ∧ x.next ≠ 5 ∧ V.askOf j = some a ∧ s = shNo V.nsh a
  past : V.past.length ≤ V.steps

theorem askOf_lt {V : VS} {i : Nat} {a : Ask} (h : V.askOf i = some a) : ∃ l k, V.work[i]? = some l ∧ V.at_[i]? = some k ∧ l[k]? = some a := by
  unfold askOf at h
  split at h
  · rename_i l k h1 h2
    exact ⟨l, k, h1, h2, h⟩
  · cases h
theorem askOf_of {V : VS} {i : Nat} {l : List Ask} {k : Nat} (h1 : V.work[i]? = some l) (h2 : V.at_[i]? = some k) : V.askOf i = l[k]? := by
  unfold askOf; rw [h1, h2]
theorem askOf_same {V W : VS} (h1 : W.work = V.work) (i : Nat) (h2 : W.at_[i]? = V.at_[i]?) : W.askOf i = V.askOf i := by
  unfold askOf; rw [h1, h2]
theorem Inv.lt64 {V : VS} (h : V.Inv) {i : Nat} {a : Ask} (ha : V.askOf i = some a) : i < 64 := by
  obtain ⟨l, k, h1, _, _⟩ := askOf_lt ha
  have := (List.getElem?_eq_some_iff.1 h1).1
  have := h.len_w
  omega

/-- A step that only turns what is in hand. -/
theorem Inv.hand {V : VS} (h : V.Inv) {i : Nat} {a : Ask} {x : VH} (ha : V.askOf i = some a) (hx : V.hands i = some x) (hn5 : x.next ≠ 5) {y : VH} (hy : y.at_ = x.at_) (h1 : 1 ≤ y.next) (h4 : y.next ≤ 4) (W : VS)
    (hW : W = { V.hand i y with values := W.values, told := W.told }) : W.Inv := by
  rw [hW]
  have hask : ∀ j, askOf { V.hand i y with values := W.values, told := W.told } j = V.askOf j := fun j => askOf_same rfl j rfl
  refine ⟨h.len_own, h.pos, h.len_at, h.len_w, h.le, fun j z hz => ?_, fun s o hs => ?_, by have := h.past; show V.past.length ≤ V.steps + 1; omega⟩
  · rw [hask]
    by_cases hj : j = i
    · subst hj
      obtain ⟨b, hb, hat, _, _, ho⟩ := h.held j x hx
      have hzy : z = y := by
        have : put V.hands j (some y) j = some z := hz
        rw [put_same] at this
        exact (Option.some.inj this).symm
      subst hzy
      exact ⟨b, hb, by rw [hy]; exact hat, h1, by omega, fun _ => ho hn5⟩
    · have : put V.hands i (some y) j = some z := hz
      rw [put_other _ _ _ _ hj] at this
      exact h.held j z this
  · rcases h.owner s o hs with h0 | ⟨j, z, b, h0, h2, h3, h5, h6⟩
    · exact .inl h0
    · refine .inr ?_
      by_cases hj : j = i
      · subst hj
        refine ⟨j, y, b, h0, put_same _ _ _, by omega, (hask j).trans h5, h6⟩
      · exact ⟨j, z, b, h0, (put_other _ _ _ _ hj).trans h2, h3, (hask j).trans h5, h6⟩

theorem Inv.lock {V : VS} (h : V.Inv) {i : Nat} {a : Ask} (ha : V.askOf i = some a) (hx : V.hands i = none) (ho : V.own[shNo V.nsh a]? = some (-1)) : (V.lock i a).Inv := by
  have hask : ∀ j, (V.lock i a).askOf j = V.askOf j := fun j => askOf_same rfl j rfl
  have hsl : shNo V.nsh a < V.own.length := (List.getElem?_eq_some_iff.1 ho).1
  refine ⟨by simp [VS.lock, h.len_own], h.pos, h.len_at, h.len_w, h.le, fun j z hz => ?_, fun s o hs => ?_, by have := h.past; simp [VS.lock]; omega⟩
  · rw [hask]
    have hz' : put V.hands i (some ⟨V.past.length, 1, false, 0⟩) j = some z := hz
    by_cases hj : j = i
    · subst hj
      rw [put_same] at hz'
      obtain rfl := Option.some.inj hz'
      refine ⟨a, ha, by simp [VS.lock], by simp, by simp, fun _ => ?_⟩
      show (V.own.set (shNo V.nsh a) j)[shNo V.nsh a]? = some (j : Int)
      rw [List.getElem?_set_self hsl]
    · rw [put_other _ _ _ _ hj] at hz'
      obtain ⟨b, hb, hat, h1, h5, hown⟩ := h.held j z hz'
      refine ⟨b, hb, by simp [VS.lock]; omega, h1, h5, fun hn => ?_⟩
      have := hown hn
      show (V.own.set (shNo V.nsh a) i)[shNo V.nsh b]? = some (j : Int)
      by_cases hs : shNo V.nsh a = shNo V.nsh b
      · rw [← hs, ho] at this
        injection this with this
        omega
      · rw [List.getElem?_set_ne hs]; exact this
  · have hs' : (V.own.set (shNo V.nsh a) i)[s]? = some o := hs
    by_cases hsa : shNo V.nsh a = s
    · subst hsa
      rw [List.getElem?_set_self hsl] at hs'
      obtain rfl := Option.some.inj hs'
      exact .inr ⟨i, _, a, rfl, put_same _ _ _, by simp, (hask i).trans ha, rfl⟩
    · rw [List.getElem?_set_ne hsa] at hs'
      rcases h.owner s o hs' with h0 | ⟨j, z, b, h0, h2, h3, h5, h6⟩
      · exact .inl h0
      · have hj : j ≠ i := fun e => by rw [e, hx] at h2; cases h2
        exact .inr ⟨j, z, b, h0, (put_other _ _ _ _ hj).trans h2, h3, (hask j).trans h5, h6⟩

/-- The lock is given back: nobody but i had it. -/
theorem own_back {V : VS} (h : V.Inv) {i : Nat} {a : Ask} {x : VH} (ha : V.askOf i = some a) (hx : V.hands i = some x) (hn5 : x.next ≠ 5) (s : Nat) (o : Int) (hs : (V.own.set (shNo V.nsh a) (-1))[s]? = some o) :
    o = -1 ∨ ∃ (j : Nat) (z : VH) (b : Ask), j ≠ i ∧ o = j ∧ V.hands j = some z ∧ z.next ≠ 5 ∧ V.askOf j = some b ∧ s = shNo V.nsh b := by
  by_cases hsa : shNo V.nsh a = s
  · subst hsa
    have hsl : shNo V.nsh a < V.own.length := by
      have := (List.getElem?_eq_some_iff.1 hs).1
      simpa using this
    rw [List.getElem?_set_self hsl] at hs
    exact .inl (Option.some.inj hs).symm
  · rw [List.getElem?_set_ne hsa] at hs
    rcases h.owner s o hs with h0 | ⟨j, z, b, h0, h2, h3, h5, h6⟩
    · exact .inl h0
    · refine .inr ⟨j, z, b, fun e => ?_, h0, h2, h3, h5, h6⟩
      subst e
      rw [ha] at h5
      obtain rfl := Option.some.inj h5
      exact hsa h6.symm
theorem own_keep' {V : VS} (h : V.Inv) {i j : Nat} {a b : Ask} (hown : V.own[shNo V.nsh a]? = some (i : Int)) (hj : j ≠ i) (hb : V.own[shNo V.nsh b]? = some (j : Int)) : (V.own.set (shNo V.nsh a) (-1))[shNo V.nsh b]? = some (j : Int) := by
  by_cases hs : shNo V.nsh a = shNo V.nsh b
  · rw [← hs, hown] at hb
    injection hb with hb
    omega
  · rw [List.getElem?_set_ne hs]; exact hb

/-- A call that ends, with its lock given back or without one. -/
theorem Inv.end_ {V : VS} (h : V.Inv) {i : Nat} {a : Ask} (ha : V.askOf i = some a) {x : VH} (n e : Int) {own' : List Int} (hl : own'.length = V.own.length)
    (ho1 : ∀ (s : Nat) (o : Int), own'[s]? = some o → o = -1 ∨ ∃ (j : Nat) (z : VH) (b : Ask), j ≠ i ∧ o = j ∧ V.hands j = some z ∧ z.next ≠ 5 ∧ V.askOf j = some b ∧ s = shNo V.nsh b)
    (ho2 : ∀ (j : Nat) (b : Ask), j ≠ i → V.own[shNo V.nsh b]? = some (j : Int) → own'[shNo V.nsh b]? = some (j : Int)) : (VS.end_ { V with own := own' } i x n e).Inv := by
  have hask : ∀ j, j ≠ i → (VS.end_ { V with own := own' } i x n e).askOf j = V.askOf j := fun j hj => askOf_same (V := V) (W := VS.end_ { V with own := own' } i x n e) rfl j (by
    show (V.at_.modify i (· + 1))[j]? = V.at_[j]?
    rw [List.getElem?_modify]; simp [Ne.symm hj])
  refine ⟨hl.trans h.len_own, h.pos, by simp [VS.end_, h.len_at], h.len_w, fun j l k hl hk => ?_, fun j z hz => ?_, fun s o hs => ?_, by have := h.past; simp [VS.end_]; omega⟩
  · have hk' : (V.at_.modify i (· + 1))[j]? = some k := hk
    rw [List.getElem?_modify] at hk'
    by_cases hj : i = j
    · subst hj
      obtain ⟨l', k', h1, h2, h3⟩ := askOf_lt ha
      have hl' : V.work[i]? = some l := hl
      rw [h1] at hl'
      obtain rfl := Option.some.inj hl'
      rw [h2] at hk'
      simp at hk'
      have := (List.getElem?_eq_some_iff.1 h3).1
      omega
    · simp [hj] at hk'
      exact h.le j l k hl hk'
  · have hz' : put V.hands i none j = some z := hz
    by_cases hj : j = i
    · subst hj
      rw [put_same] at hz'
      cases hz'
    · rw [put_other _ _ _ _ hj] at hz'
      obtain ⟨b, hb, hat, h1, h5, hown⟩ := h.held j z hz'
      exact ⟨b, (hask j hj).trans hb, by simpa [VS.end_] using hat, h1, h5, fun hn => ho2 j b hj (hown hn)⟩
  · rcases ho1 s o hs with h0 | ⟨j, z, b, hj, h0, h2, h3, h5, h6⟩
    · exact .inl h0
    · exact .inr ⟨j, z, b, h0, (put_other _ _ _ _ hj).trans h2, h3, (hask j hj).trans h5, h6⟩

theorem Inv.unlock {V : VS} (h : V.Inv) {i : Nat} {a : Ask} {x : VH} (ha : V.askOf i = some a) (hx : V.hands i = some x) (hn5 : x.next ≠ 5) : (V.unlock i a x).Inv := by
  obtain ⟨b, hb, hat, hx1, hx5, hown⟩ := h.held i x hx
  rw [ha] at hb
  obtain rfl := Option.some.inj hb
  have hown := hown hn5
  have he : ∀ n e, ((V.unlocked a).end_ i x n e).Inv := fun n e => h.end_ ha n e (by simp) (own_back h ha hx hn5) (fun j b hj hb => own_keep' h hown hj hb)
  unfold VS.unlock
  split
  · exact he _ _
  split
  · exact he _ _
  split
  · exact he _ _
  have hask : ∀ j, ((V.unlocked a).hand i { x with next := 5 }).askOf j = V.askOf j := fun j => askOf_same rfl j rfl
  refine ⟨by simp [VS.unlocked, VS.hand, h.len_own], h.pos, h.len_at, h.len_w, h.le, fun j z hz => ?_, fun s o hs => ?_, by have := h.past; simp [VS.unlocked, VS.hand]; omega⟩
  · have hz' : put V.hands i (some { x with next := 5 }) j = some z := hz
    rw [hask]
    by_cases hj : j = i
    · subst hj
      rw [put_same] at hz'
      obtain rfl := Option.some.inj hz'
      exact ⟨a, ha, hat, by simp, by simp, fun hn => absurd rfl hn⟩
    · rw [put_other _ _ _ _ hj] at hz'
      obtain ⟨b, hb, hat, h1, h5, hown'⟩ := h.held j z hz'
      exact ⟨b, hb, hat, h1, h5, fun hn => own_keep' h hown hj (hown' hn)⟩
  · rcases own_back h ha hx hn5 s o hs with h0 | ⟨j, z, b, hj, h0, h2, h3, h5, h6⟩
    · exact .inl h0
    · exact .inr ⟨j, z, b, h0, (put_other _ _ _ _ hj).trans h2, h3, (hask j).trans h5, h6⟩

theorem Inv.told {V : VS} (h : V.Inv) {i : Nat} {a : Ask} {x : VH} (ha : V.askOf i = some a) (hx : V.hands i = some x) (h5 : x.next = 5) (n e : Int) : (V.end_ i x n e).Inv := by
  refine h.end_ (own' := V.own) ha n e rfl (fun s o hs => ?_) (fun j b hj hb => hb)
  rcases h.owner s o hs with h0 | ⟨j, z, b, h0, h2, h3, h5', h6⟩
  · exact .inl h0
  · refine .inr ⟨j, z, b, fun e => ?_, h0, h2, h3, h5', h6⟩
    subst e
    rw [hx] at h2
    obtain rfl := Option.some.inj h2
    exact h3 h5

theorem Inv.step {V : VS} (h : V.Inv) (i : Nat) : (V.step i).Inv := by
  unfold VS.step
  cases ha : V.askOf i with
  | none => exact h
  | some a =>
    cases hx : V.hands i with
    | none =>
      simp only
      split
      · rename_i ho; exact h.lock ha hx ho
      · exact h
    | some x =>
      obtain ⟨b, hb, hat, hx1, hx5, hown⟩ := h.held i x hx
      show (V.held i a x).Inv
      unfold VS.held
      split
      · rename_i h1
        refine h.hand ha hx (by omega) (y := { x with v := (mget V.values a.key).getD 0, found := (mget V.values a.key).isSome, next := if a.kind == 1 && !(mget V.values a.key).isSome then 2 else 4 }) rfl ?_ ?_ _ rfl
        · simp only; split <;> omega
        · simp only; split <;> omega
      split
      · rename_i h2; exact h.hand ha hx (by omega) (y := { x with next := 3 }) rfl (by simp) (by simp) _ rfl
      split
      · rename_i h3; exact h.hand ha hx (by omega) (y := { x with next := 4 }) rfl (by simp) (by simp) _ rfl
      split
      · rename_i h4; exact h.unlock ha hx (by omega)
      split
      · exact h.told ha hx (by omega) _ _
      · exact h
theorem step_steps (V : VS) (i : Nat) : (V.step i).steps ≤ V.steps + 1 ∧ V.steps ≤ (V.step i).steps ∧ (V.step i).work = V.work ∧ (V.step i).nsh = V.nsh := by
  unfold VS.step
  cases V.askOf i with
  | none => simp
  | some a =>
    cases V.hands i with
    | none => simp only; split <;> simp [VS.lock]
    | some x =>
      simp only
      unfold VS.held VS.look VS.unlock VS.unlocked VS.end_ VS.hand
      split
      · simp
      split
      · simp
      split
      · simp
      split
      · split
        · simp
        split
        · simp
        split <;> simp
      split <;> simp
end VS
end Go.Proofs.Ytimkoepaeebleaa
