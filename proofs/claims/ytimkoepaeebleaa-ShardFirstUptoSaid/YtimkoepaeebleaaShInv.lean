/- What stays true of values and of the history. -/
import Derived.Test.YtimkoepaeebleaaShPot
namespace Go.Proofs.Ytimkoepaeebleaa
namespace VS

def okDef (c : CallR) : Prop := c.kind = 1 ∧ 0 ≤ c.to ∧ c.err = 0
/-- A define that put its value, and goes on. -/
structure Pend (V : VS) (i : Nat) (k : ByteArray) : Prop where
  ex : ∃ x a, V.hands i = some x ∧ V.askOf i = some a ∧ a.kind = 1 ∧ x.found = false ∧ (x.next = 3 ∨ x.next = 4) ∧ a.key = k
structure Inv3 (V : VS) : Prop where
  open_ : ∀ (n : Nat) (c : CallR), V.past[n]? = some c → c.to < 0 → ∃ (i : Nat) (x : VH), c.worker = i ∧ V.hands i = some x ∧ x.at_ = n
  hand : ∀ (i : Nat) (x : VH) (a : Ask), V.hands i = some x → V.askOf i = some a → ∃ c, V.past[x.at_]? = some c ∧ c.worker = i ∧ c.kind = a.kind ∧ c.key = a.key ∧ c.value = a.value ∧ c.to < 0
  good : ∀ (n : Nat) (c : CallR), V.past[n]? = some c → okDef c → mget V.values c.key = some c.value
  apart : ∀ (n m : Nat) (c d : CallR), V.past[n]? = some c → V.past[m]? = some d → okDef c → okDef d → c.key = d.key → n = m
  pend : ∀ (i : Nat) (x : VH) (a : Ask), V.hands i = some x → V.askOf i = some a → a.kind = 1 → x.found = false → (x.next = 3 ∨ x.next = 4) → mget V.values a.key = some a.value ∧ ∀ (n : Nat) (c : CallR), V.past[n]? = some c → okDef c → c.key ≠ a.key
  cover : ∀ k, (mget V.values k).isSome = true → (∃ (n : Nat) (c : CallR), V.past[n]? = some c ∧ okDef c ∧ c.key = k) ∨ ∃ i, V.Pend i k
  absent : ∀ (i : Nat) (x : VH) (a : Ask), V.hands i = some x → V.askOf i = some a → x.next = 2 → a.kind = 1 ∧ x.found = false ∧ mget V.values a.key = none
  untold : ∀ k, (mget V.values k).isSome = true → V.isTold k = false → ∃ (i : Nat) (x : VH) (a : Ask), V.hands i = some x ∧ V.askOf i = some a ∧ x.next = 3 ∧ a.key = k
  n3 : ∀ (i : Nat) (x : VH) (a : Ask), V.hands i = some x → V.askOf i = some a → x.next = 3 → a.kind = 1 ∧ x.found = false
  n4 : ∀ (i : Nat) (x : VH) (a : Ask), V.hands i = some x → V.askOf i = some a → x.next = 4 → x.found = true → mget V.values a.key = some x.v
  n5 : ∀ (i : Nat) (x : VH) (a : Ask), V.hands i = some x → V.askOf i = some a → x.next = 5 → a.kind ≠ 1 ∧ a.kind ≠ 2
  toldv : ∀ k, V.isTold k = true → (mget V.values k).isSome = true
  vlen : V.values.length ≤ V.steps
  vapart : Apart V.values

/-- Two that hold the lock of one name's shard are one. -/
theorem lock_one {V : VS} (hI : V.Inv) {i j : Nat} {x y : VH} {a b : Ask} (hx : V.hands i = some x) (hy : V.hands j = some y) (ha : V.askOf i = some a) (hb : V.askOf j = some b) (h1 : x.next ≠ 5) (h2 : y.next ≠ 5) (hk : a.key = b.key) : i = j := by
  obtain ⟨a', ha', _, _, _, o1⟩ := hI.held i x hx
  obtain ⟨b', hb', _, _, _, o2⟩ := hI.held j y hy
  rw [ha] at ha'
  rw [hb] at hb'
  obtain rfl := Option.some.inj ha'
  obtain rfl := Option.some.inj hb'
  have e1 := o1 h1
  have e2 := o2 h2
  have : shNo V.nsh a = shNo V.nsh b := by unfold shNo; rw [hk]
  rw [this, e2] at e1
  injection e1 with e1
  omega

theorem init_inv3 (shards : Nat) (work : List (List Ask)) : (⟨shards, work, List.replicate shards (-1), List.replicate work.length 0, fun _ => none, [], [], [], 0⟩ : VS).Inv3 := by
  refine ⟨?_, ?_, ?_, ?_, ?_, ?_, ?_, ?_, ?_, ?_, ?_, ?_, ?_, ?_⟩
  · intro n c h; simp at h
  · intro i x a h; cases h
  · intro n c h; simp at h
  · intro n m c d h; simp at h
  · intro i x a h; cases h
  · intro k h; simp [mget_nil] at h
  · intro i x a h; cases h
  · intro k h; simp [mget_nil] at h
  · intro i x a h; cases h
  · intro i x a h; cases h
  · intro i x a h; cases h
  · intro k h; simp [isTold, mget_nil] at h
  · simp
  · exact List.Pairwise.nil

section
variable {V : VS} {i : Nat} {a : Ask}
theorem Inv3.lock (h : V.Inv3) (ha : V.askOf i = some a) (hx : V.hands i = none) : (V.lock i a).Inv3 := by
  have hask : ∀ j, (V.lock i a).askOf j = V.askOf j := fun j => askOf_same rfl j rfl
  have hne : ∀ (j : Nat) (x : VH), (V.lock i a).hands j = some x → j ≠ i → V.hands j = some x := fun j x hj hn => by
    have : put V.hands i (some ⟨V.past.length, 1, false, 0⟩) j = some x := hj
    rwa [put_other _ _ _ _ hn] at this
  have hi : ∀ x, (V.lock i a).hands i = some x → x = ⟨V.past.length, 1, false, 0⟩ := fun x hj => by
    have : put V.hands i (some ⟨V.past.length, 1, false, 0⟩) i = some x := hj
    rw [put_same] at this
    exact (Option.some.inj this).symm
  have hto : ∀ (j : Nat) (x : VH), V.hands j = some x → (V.lock i a).hands j = some x := fun j x hj => by
    have hn : j ≠ i := fun e => by rw [e, hx] at hj; cases hj
    exact (put_other _ _ _ _ hn).trans hj
  have hpast : (V.lock i a).past = V.past ++ [⟨i, a.kind, a.key, a.value, V.steps, -1, 0, 0⟩] := rfl
  have hp1 : ∀ (n : Nat) (c : CallR), (V.lock i a).past[n]? = some c → 0 ≤ c.to → V.past[n]? = some c := fun n c hc h0 => by
    rw [hpast] at hc
    rcases Nat.lt_or_ge n V.past.length with hl | hl
    · rwa [List.getElem?_append_left hl] at hc
    · rw [List.getElem?_append_right hl] at hc
      have : n - V.past.length = 0 := by
        have := (List.getElem?_eq_some_iff.1 hc).1
        simpa using this
      rw [this] at hc
      simp at hc
      rw [← hc] at h0
      simp at h0
  have hp2 : ∀ (n : Nat) (c : CallR), V.past[n]? = some c → (V.lock i a).past[n]? = some c := fun n c hc => by
    rw [hpast, List.getElem?_append_left (List.getElem?_eq_some_iff.1 hc).1]; exact hc
  refine ⟨?_, ?_, ?_, ?_, ?_, ?_, ?_, ?_, ?_, ?_, ?_, h.toldv, Nat.le_succ_of_le h.vlen, h.vapart⟩
  · intro n c hc h0
    rw [hpast] at hc
    rcases Nat.lt_or_ge n V.past.length with hl | hl
    · rw [List.getElem?_append_left hl] at hc
      obtain ⟨j, x, h1, h2, h3⟩ := h.open_ n c hc h0
      exact ⟨j, x, h1, hto j x h2, h3⟩
    · rw [List.getElem?_append_right hl] at hc
      have hn : n - V.past.length = 0 := by
        have := (List.getElem?_eq_some_iff.1 hc).1
        simpa using this
      rw [hn] at hc
      simp at hc
      rw [← hc]
      exact ⟨i, _, rfl, put_same _ _ _, by simp; omega⟩
  · intro j x b hj hb
    rw [hask] at hb
    by_cases hn : j = i
    · subst hn
      rw [hi x hj]
      rw [ha] at hb
      obtain rfl := Option.some.inj hb
      exact ⟨⟨j, a.kind, a.key, a.value, V.steps, -1, 0, 0⟩, by rw [hpast]; simp, rfl, rfl, rfl, rfl, by simp⟩
    · obtain ⟨c, h1, h2⟩ := h.hand j x b (hne j x hj hn) hb
      exact ⟨c, hp2 _ _ h1, h2⟩
  · intro n c hc hok
    exact h.good n c (hp1 n c hc hok.2.1) hok
  · intro n m c d hc hd h1 h2
    exact h.apart n m c d (hp1 n c hc h1.2.1) (hp1 m d hd h2.2.1) h1 h2
  · intro j x b hj hb h1 h2 h3
    rw [hask] at hb
    by_cases hn : j = i
    · subst hn
      rw [hi x hj] at h3
      simp at h3
    · obtain ⟨q1, q2⟩ := h.pend j x b (hne j x hj hn) hb h1 h2 h3
      exact ⟨q1, fun n c hc hok => q2 n c (hp1 n c hc hok.2.1) hok⟩
  · intro k hk
    rcases h.cover k hk with ⟨n, c, h1, h2, h3⟩ | ⟨j, ⟨x, b, h1, h2, h3⟩⟩
    · exact .inl ⟨n, c, hp2 n c h1, h2, h3⟩
    · exact .inr ⟨j, ⟨x, b, hto j x h1, (hask j).trans h2, h3⟩⟩
  · intro j x b hj hb h1
    rw [hask] at hb
    by_cases hn : j = i
    · subst hn
      rw [hi x hj] at h1
      simp at h1
    · exact h.absent j x b (hne j x hj hn) hb h1
  · intro k h1 h2
    obtain ⟨j, x, b, q1, q2, q3⟩ := h.untold k h1 h2
    exact ⟨j, x, b, hto j x q1, (hask j).trans q2, q3⟩
  · intro j x b hj hb h1
    rw [hask] at hb
    by_cases hn : j = i
    · subst hn
      rw [hi x hj] at h1
      simp at h1
    · exact h.n3 j x b (hne j x hj hn) hb h1
  · intro j x b hj hb h1
    rw [hask] at hb
    by_cases hn : j = i
    · subst hn
      rw [hi x hj] at h1
      simp at h1
    · exact h.n4 j x b (hne j x hj hn) hb h1
  · intro j x b hj hb h1
    rw [hask] at hb
    by_cases hn : j = i
    · subst hn
      rw [hi x hj] at h1
      simp at h1
    · exact h.n5 j x b (hne j x hj hn) hb h1

/-- What is in hand turns; the history stays. -/
theorem Inv3.turn (h : V.Inv3) (hI : V.Inv) {x y : VH} (ha : V.askOf i = some a) (hx : V.hands i = some x) (hat : y.at_ = x.at_) (W : VS) (hW1 : W.work = V.work) (hW2 : W.at_ = V.at_) (hW3 : W.hands = put V.hands i (some y)) (hW4 : W.past = V.past) (hW5 : V.steps < W.steps)
    (hx5 : x.next ≠ 5)
    (hv : (W.values = V.values ∧ x.next ≠ 2) ∨ (W.values = mput V.values a.key a.value ∧ x.next = 2 ∧ y.next = 3 ∧ W.told = V.told ∧ y.found = x.found))
    (ht : (W.told = V.told ∧ x.next ≠ 3) ∨ (W.told = mput V.told a.key true ∧ x.next = 3 ∧ y.next = 4 ∧ W.values = V.values ∧ y.found = x.found))
    (h2 : y.next = 2 → a.kind = 1 ∧ y.found = false ∧ mget W.values a.key = none)
    (h3 : y.next = 3 → x.next = 2)
    (h4 : y.next = 4 → (a.kind = 1 → y.found = false → x.next = 3) ∧ (y.found = true → mget W.values a.key = some y.v))
    (h5 : y.next = 5 → a.kind ≠ 1 ∧ a.kind ≠ 2) (hk4 : x.next = 4 → a.kind ≠ 1) : W.Inv3 := by
  have hask : ∀ j, W.askOf j = V.askOf j := fun j => askOf_same hW1 j (by rw [hW2])
  have hne : ∀ (j : Nat) (z : VH), W.hands j = some z → j ≠ i → V.hands j = some z := fun j z hj hn => by
    rw [hW3, put_other _ _ _ _ hn] at hj; exact hj
  have hi : ∀ z, W.hands i = some z → z = y := fun z hj => by
    rw [hW3, put_same] at hj
    exact (Option.some.inj hj).symm
  have hto : ∀ (j : Nat) (z : VH), V.hands j = some z → j ≠ i → W.hands j = some z := fun j z hj hn => by
    rw [hW3, put_other _ _ _ _ hn]; exact hj
  have hii : W.hands i = some y := by rw [hW3, put_same]
  have hnone : x.next = 2 → mget V.values a.key = none := fun h => (‹V.Inv3›.absent i x a hx ha h).2.2
  have hput : ∀ k, mget W.values k = if x.next = 2 ∧ a.key = k then some a.value else mget V.values k := fun k => by
    rcases hv with ⟨e, hn⟩ | ⟨e, hn, _⟩
    · rw [e, if_neg (by omega)]
    · rw [e, mget_put]
      by_cases hk : a.key = k <;> simp [hn, hk]
  have hsome : ∀ k v, mget V.values k = some v → mget W.values k = some v := fun k v hk => by
    rw [hput]
    split
    · rename_i hc
      rw [← hc.2, hnone hc.1] at hk
      cases hk
    · exact hk
  refine ⟨?_, ?_, ?_, ?_, ?_, ?_, ?_, ?_, ?_, ?_, ?_, ?_, ?_, ?_⟩
  · intro n c hc h0
    rw [hW4] at hc
    obtain ⟨j, z, q1, q2, q3⟩ := h.open_ n c hc h0
    by_cases hn : j = i
    · subst hn
      rw [hx] at q2
      obtain rfl := Option.some.inj q2
      exact ⟨j, y, q1, hii, hat.trans q3⟩
    · exact ⟨j, z, q1, hto j z q2 hn, q3⟩
  · intro j z b hj hb
    rw [hask] at hb
    rw [hW4]
    by_cases hn : j = i
    · subst hn
      rw [hi z hj, hat]
      exact h.hand j x b hx hb
    · exact h.hand j z b (hne j z hj hn) hb
  · intro n c hc hok
    rw [hW4] at hc
    exact hsome _ _ (h.good n c hc hok)
  · intro n m c d hc hd
    rw [hW4] at hc hd
    exact h.apart n m c d hc hd
  · intro j z b hj hb q1 q2 q3
    rw [hask] at hb
    rw [hW4]
    by_cases hn : j = i
    · subst hn
      rw [ha] at hb
      obtain rfl := Option.some.inj hb
      have := hi z hj
      subst this
      rcases q3 with q3 | q3
      · have hx2 := h3 q3
        refine ⟨by rw [hput, if_pos ⟨hx2, rfl⟩], fun n c hc hok e => ?_⟩
        have := h.good n c hc hok
        rw [e, hnone hx2] at this
        cases this
      · have hx3 := (h4 q3).1 q1 q2
        obtain ⟨r1, r2⟩ := h.n3 j x a hx ha hx3
        obtain ⟨s1, s2⟩ := h.pend j x a hx ha r1 r2 (.inl hx3)
        exact ⟨hsome _ _ s1, s2⟩
    · obtain ⟨s1, s2⟩ := h.pend j z b (hne j z hj hn) hb q1 q2 q3
      exact ⟨hsome _ _ s1, s2⟩
  · intro k hk
    rw [hput] at hk
    split at hk
    · rename_i hc
      rcases hv with ⟨_, hn⟩ | ⟨_, _, hy3, _, hf⟩
      · exact absurd hc.1 hn
      · obtain ⟨r1, r2, _⟩ := h.absent i x a hx ha hc.1
        exact .inr ⟨i, ⟨y, a, hii, (hask i).trans ha, r1, by rw [hf]; exact r2, .inl hy3, hc.2⟩⟩
    · rcases h.cover k hk with ⟨n, c, q1, q2⟩ | ⟨j, ⟨z, b, q1, q2, q3, q4, q5, q6⟩⟩
      · exact .inl ⟨n, c, by rw [hW4]; exact q1, q2⟩
      · by_cases hn : j = i
        · subst hn
          rw [hx] at q1
          obtain rfl := Option.some.inj q1
          rw [ha] at q2
          obtain rfl := Option.some.inj q2
          rcases q5 with q5 | q5
          · rcases ht with ⟨_, hne3⟩ | ⟨_, _, hy4, _, hf⟩
            · exact absurd q5 hne3
            · exact .inr ⟨j, ⟨y, a, hii, (hask j).trans ha, q3, by rw [hf]; exact q4, .inr hy4, q6⟩⟩
          · exact absurd q3 (hk4 q5)
        · exact .inr ⟨j, ⟨z, b, hto j z q1 hn, (hask j).trans q2, q3, q4, q5, q6⟩⟩
  · intro j z b hj hb q
    rw [hask] at hb
    by_cases hn : j = i
    · subst hn
      rw [ha] at hb
      obtain rfl := Option.some.inj hb
      have := hi z hj
      subst this
      exact h2 q
    · obtain ⟨r1, r2, r3⟩ := h.absent j z b (hne j z hj hn) hb q
      refine ⟨r1, r2, ?_⟩
      rw [hput, if_neg (fun hc => hn (lock_one hI (hne j z hj hn) hx hb ha (by omega) hx5 hc.2.symm))]
      exact r3
  · intro k q1 q2
    rw [hput] at q1
    split at q1
    · rename_i hc
      rcases hv with ⟨_, hn⟩ | ⟨_, _, hy3, _, _⟩
      · exact absurd hc.1 hn
      · exact ⟨i, y, a, hii, (hask i).trans ha, hy3, hc.2⟩
    · have q2' : V.isTold k = false ∧ (x.next = 3 → a.key ≠ k) := by
        rcases ht with ⟨e, hn⟩ | ⟨e, hn, _⟩
        · unfold isTold at q2 ⊢
          rw [e] at q2
          exact ⟨q2, fun h => absurd h hn⟩
        · unfold isTold at q2 ⊢
          rw [e, mget_put] at q2
          by_cases hk : a.key = k
          · rw [if_pos hk] at q2
            cases q2
          · rw [if_neg hk] at q2
            exact ⟨q2, fun _ => hk⟩
      obtain ⟨j, z, b, r1, r2, r3, r4⟩ := h.untold k q1 q2'.1
      have hn : j ≠ i := fun e => by
        subst e
        rw [hx] at r1
        obtain rfl := Option.some.inj r1
        rw [ha] at r2
        obtain rfl := Option.some.inj r2
        exact q2'.2 r3 r4
      exact ⟨j, z, b, hto j z r1 hn, (hask j).trans r2, r3, r4⟩
  · intro j z b hj hb q
    rw [hask] at hb
    by_cases hn : j = i
    · subst hn
      rw [ha] at hb
      obtain rfl := Option.some.inj hb
      have := hi z hj
      subst this
      have hx2 := h3 q
      obtain ⟨r1, r2, _⟩ := h.absent j x a hx ha hx2
      rcases hv with ⟨_, hne2⟩ | ⟨_, _, _, _, hf⟩
      · exact absurd hx2 hne2
      · exact ⟨r1, by rw [hf]; exact r2⟩
    · exact h.n3 j z b (hne j z hj hn) hb q
  · intro j z b hj hb q1 q2
    rw [hask] at hb
    by_cases hn : j = i
    · subst hn
      rw [ha] at hb
      obtain rfl := Option.some.inj hb
      have := hi z hj
      subst this
      exact (h4 q1).2 q2
    · exact hsome _ _ (h.n4 j z b (hne j z hj hn) hb q1 q2)
  · intro j z b hj hb q
    rw [hask] at hb
    by_cases hn : j = i
    · subst hn
      rw [ha] at hb
      obtain rfl := Option.some.inj hb
      have := hi z hj
      subst this
      exact h5 q
    · exact h.n5 j z b (hne j z hj hn) hb q
  · intro k q
    have old : V.isTold k = true → (mget W.values k).isSome = true := fun q => by
      obtain ⟨v, hv'⟩ := Option.isSome_iff_exists.1 (h.toldv k q)
      rw [hsome k v hv']; rfl
    rcases ht with ⟨e, _⟩ | ⟨e, hx3, _⟩
    · unfold isTold at q old
      rw [e] at q
      exact old q
    · unfold isTold at q old
      rw [e, mget_put] at q
      by_cases hk : a.key = k
      · obtain ⟨r1, r2⟩ := h.n3 i x a hx ha hx3
        have := hsome _ _ (h.pend i x a hx ha r1 r2 (.inl hx3)).1
        rw [← hk, this]; rfl
      · rw [if_neg hk] at q
        exact old q
  · rcases hv with ⟨e, _⟩ | ⟨e, hx2, _⟩
    · rw [e]; have := h.vlen; omega
    · rw [e]
      unfold mput
      rw [hnone hx2]
      have := h.vlen
      simp
      omega
  · rcases hv with ⟨e, _⟩ | ⟨e, _⟩
    · rw [e]; exact h.vapart
    · rw [e]; exact h.vapart.put _ _

/-- A call ends. -/
theorem Inv3.ends (h : V.Inv3) (hI : V.Inv) {x : VH} (n : Int) (e : Int) (own' : List Int) (ha : V.askOf i = some a) (hx : V.hands i = some x) (hx4 : x.next = 4 ∨ x.next = 5) (hk5 : x.next = 5 → a.kind ≠ 1)
    (he1 : a.kind = 1 → x.found = false → e = 0) (he2 : a.kind = 1 → x.found = true → e ≠ 0) : (VS.end_ { V with own := own' } i x n e).Inv3 := by
  obtain ⟨W, hW⟩ : ∃ W, W = VS.end_ { V with own := own' } i x n e := ⟨_, rfl⟩
  rw [← hW]
  obtain ⟨c0, hc0, hcw, hck, hckey, hcv, hct⟩ := h.hand i x a hx ha
  have hask : ∀ j, j ≠ i → W.askOf j = V.askOf j := fun j hj => by
    refine askOf_same (by rw [hW]; rfl) j ?_
    rw [hW]
    show (V.at_.modify i (· + 1))[j]? = V.at_[j]?
    rw [List.getElem?_modify]; simp [Ne.symm hj]
  have hW3 : W.hands = put V.hands i none := by rw [hW]; rfl
  have hval : W.values = V.values := by rw [hW]; rfl
  have htold : W.told = V.told := by rw [hW]; rfl
  have hst : W.steps = V.steps + 1 := by rw [hW]; rfl
  have hpast : ∀ m, W.past[m]? = if m = x.at_ then some (setCall c0 (V.steps + 1 : Nat) n e) else V.past[m]? := fun m => by
    have e1 : W.past = V.past.modify x.at_ (fun c => setCall c (V.steps + 1 : Nat) n e) := by rw [hW]; rfl
    rw [e1, List.getElem?_modify]
    by_cases hm : m = x.at_
    · subst hm
      rw [hc0]; simp
    · simp [hm, Ne.symm hm]
  have hne : ∀ (j : Nat) (z : VH), W.hands j = some z → j ≠ i ∧ V.hands j = some z := fun j z hj => by
    rw [hW3] at hj
    by_cases hn : j = i
    · subst hn; rw [put_same] at hj; cases hj
    · rw [put_other _ _ _ _ hn] at hj; exact ⟨hn, hj⟩
  have hto : ∀ (j : Nat) (z : VH), V.hands j = some z → j ≠ i → W.hands j = some z := fun j z hj hn => by
    rw [hW3, put_other _ _ _ _ hn]; exact hj
  have hatne : ∀ (j : Nat) (z : VH) (b : Ask), j ≠ i → V.hands j = some z → V.askOf j = some b → z.at_ ≠ x.at_ := fun j z b hn hz hb e1 => by
    obtain ⟨c, h1, h2, _⟩ := h.hand j z b hz hb
    rw [e1, hc0] at h1
    obtain rfl := Option.some.inj h1
    rw [hcw] at h2
    omega
  have hold : ∀ (m : Nat) (c : CallR), V.past[m]? = some c → okDef c → m ≠ x.at_ := fun m c hc hok e1 => by
    subst e1
    rw [hc0] at hc
    obtain rfl := Option.some.inj hc
    have := hok.2.1
    omega
  have hnew : okDef (setCall c0 (V.steps + 1 : Nat) n e) → a.kind = 1 ∧ x.found = false ∧ x.next = 4 := fun hok => by
    have h1 : a.kind = 1 := by rw [← hck]; exact hok.1
    have h2 : e = 0 := hok.2.2
    refine ⟨h1, ?_, ?_⟩
    · cases hf : x.found with
      | false => rfl
      | true => exact absurd h2 (he2 h1 hf)
    · rcases hx4 with h | h
      · exact h
      · exact absurd h1 (hk5 h)
  refine ⟨?_, ?_, ?_, ?_, ?_, ?_, ?_, ?_, ?_, ?_, ?_, ?_, ?_, ?_⟩
  · intro m c hc h0
    rw [hpast] at hc
    split at hc
    · obtain rfl := Option.some.inj hc
      simp [setCall] at h0
      omega
    · rename_i hm
      obtain ⟨j, z, q1, q2, q3⟩ := h.open_ m c hc h0
      have hn : j ≠ i := fun e1 => by
        subst e1
        rw [hx] at q2
        obtain rfl := Option.some.inj q2
        exact hm q3.symm
      exact ⟨j, z, q1, hto j z q2 hn, q3⟩
  · intro j z b hj hb
    obtain ⟨hn, hz⟩ := hne j z hj
    rw [hask j hn] at hb
    rw [hpast, if_neg (hatne j z b hn hz hb)]
    exact h.hand j z b hz hb
  · intro m c hc hok
    rw [hpast] at hc
    rw [hval]
    split at hc
    · obtain rfl := Option.some.inj hc
      obtain ⟨q1, q2, q3⟩ := hnew hok
      have := (h.pend i x a hx ha q1 q2 (.inr q3)).1
      show mget V.values c0.key = some c0.value
      rw [hckey, hcv]; exact this
    · exact h.good m c hc hok
  · intro m1 m2 c d hc hd q1 q2 hk
    rw [hpast] at hc hd
    split at hc <;> split at hd
    · omega
    · rename_i e1 e2
      obtain rfl := Option.some.inj hc
      obtain ⟨r1, r2, r3⟩ := hnew q1
      exact absurd (hk.symm.trans hckey) ((h.pend i x a hx ha r1 r2 (.inr r3)).2 m2 d hd q2)
    · rename_i e1 e2
      obtain rfl := Option.some.inj hd
      obtain ⟨r1, r2, r3⟩ := hnew q2
      exact absurd (hk.trans hckey) ((h.pend i x a hx ha r1 r2 (.inr r3)).2 m1 c hc q1)
    · exact h.apart m1 m2 c d hc hd q1 q2 hk
  · intro j z b hj hb q1 q2 q3
    obtain ⟨hn, hz⟩ := hne j z hj
    rw [hask j hn] at hb
    rw [hval]
    obtain ⟨r1, r2⟩ := h.pend j z b hz hb q1 q2 q3
    refine ⟨r1, fun m c hc hok hk => ?_⟩
    rw [hpast] at hc
    split at hc
    · obtain rfl := Option.some.inj hc
      obtain ⟨s1, s2, s3⟩ := hnew hok
      exact hn (lock_one hI hz hx hb ha (by omega) (by omega) (by rw [← hk]; exact hckey))
    · exact r2 m c hc hok hk
  · intro k hk
    rw [hval] at hk
    rcases h.cover k hk with ⟨m, c, q1, q2, q3⟩ | ⟨j, ⟨z, b, q1, q2, q3, q4, q5, q6⟩⟩
    · exact .inl ⟨m, c, by rw [hpast, if_neg (hold m c q1 q2)]; exact q1, q2, q3⟩
    · by_cases hn : j = i
      · subst hn
        rw [hx] at q1
        obtain rfl := Option.some.inj q1
        rw [ha] at q2
        obtain rfl := Option.some.inj q2
        refine .inl ⟨x.at_, setCall c0 (V.steps + 1 : Nat) n e, by rw [hpast, if_pos rfl], ⟨hck.trans q3, ?_, he1 q3 q4⟩, hckey.trans q6⟩
        simp [setCall]
        omega
      · exact .inr ⟨j, ⟨z, b, hto j z q1 hn, (hask j hn).trans q2, q3, q4, q5, q6⟩⟩
  · intro j z b hj hb
    obtain ⟨hn, hz⟩ := hne j z hj
    rw [hask j hn] at hb
    rw [hval]
    exact h.absent j z b hz hb
  · intro k q1 q2
    rw [hval] at q1
    have q2' : V.isTold k = false := by unfold isTold at q2 ⊢; rw [htold] at q2; exact q2
    obtain ⟨j, z, b, r1, r2, r3, r4⟩ := h.untold k q1 q2'
    have hn : j ≠ i := fun e1 => by
      subst e1
      rw [hx] at r1
      obtain rfl := Option.some.inj r1
      omega
    exact ⟨j, z, b, hto j z r1 hn, (hask j hn).trans r2, r3, r4⟩
  · intro j z b hj hb
    obtain ⟨hn, hz⟩ := hne j z hj
    rw [hask j hn] at hb
    exact h.n3 j z b hz hb
  · intro j z b hj hb
    obtain ⟨hn, hz⟩ := hne j z hj
    rw [hask j hn] at hb
    rw [hval]
    exact h.n4 j z b hz hb
  · intro j z b hj hb
    obtain ⟨hn, hz⟩ := hne j z hj
    rw [hask j hn] at hb
    exact h.n5 j z b hz hb
  · intro k q
    rw [hval]
    have q' : V.isTold k = true := by unfold isTold at q ⊢; rw [htold] at q; exact q
    exact h.toldv k q'
  · rw [hval, hst]; exact Nat.le_succ_of_le h.vlen
  · rw [hval]; exact h.vapart
end

theorem Inv3.step {V : VS} (h : V.Inv3) (hI : V.Inv) (i : Nat) : (V.step i).Inv3 := by
  unfold VS.step
  cases ha : V.askOf i with
  | none => exact h
  | some a =>
    cases hx : V.hands i with
    | none =>
      simp only
      split
      · exact h.lock ha hx
      · exact h
    | some x =>
      obtain ⟨b, hb, hat, hx1, hx5, hown⟩ := hI.held i x hx
      show (V.held i a x).Inv3
      unfold VS.held
      split
      · rename_i h1
        refine h.turn hI (y := { x with v := (mget V.values a.key).getD 0, found := (mget V.values a.key).isSome, next := if a.kind == 1 && !(mget V.values a.key).isSome then 2 else 4 }) ha hx rfl _ rfl rfl rfl rfl (Nat.lt_succ_self _) (by omega) (.inl ⟨rfl, by omega⟩) (.inl ⟨rfl, by omega⟩) ?_ ?_ ?_ ?_ (by omega)
        · simp only
          split
          · rename_i hc
            simp at hc
            intro _
            exact ⟨hc.1, by simp [hc.2], hc.2⟩
          · intro hc; cases hc
        · simp only
          split <;> (intro hc; cases hc)
        · simp only
          split
          · intro hc; cases hc
          · rename_i hc
            intro _
            refine ⟨fun h1 h2 => ?_, fun h2 => ?_⟩
            · simp [h1, h2] at hc
            · obtain ⟨v, hv⟩ := Option.isSome_iff_exists.1 h2
              show mget V.values a.key = some ((mget V.values a.key).getD 0)
              rw [hv]; rfl
        · simp only
          split <;> (intro hc; cases hc)
      split
      · rename_i h2
        exact h.turn hI (y := { x with next := 3 }) ha hx rfl _ rfl rfl rfl rfl (Nat.lt_succ_self _) (by omega) (.inr ⟨rfl, h2, rfl, rfl, rfl⟩) (.inl ⟨rfl, by omega⟩) (fun hc => by cases hc) (fun _ => h2) (fun hc => by cases hc) (fun hc => by cases hc) (by omega)
      split
      · rename_i h3
        obtain ⟨r1, r2⟩ := h.n3 i x a hx ha h3
        exact h.turn hI (y := { x with next := 4 }) ha hx rfl _ rfl rfl rfl rfl (Nat.lt_succ_self _) (by omega) (.inl ⟨rfl, by omega⟩) (.inr ⟨rfl, h3, rfl, rfl, rfl⟩) (fun hc => by cases hc) (fun hc => by cases hc) (fun _ => ⟨fun _ _ => h3, fun hf => by have : x.found = true := hf; rw [r2] at this; cases this⟩) (fun hc => by cases hc) (by omega)
      split
      · rename_i h4
        unfold VS.unlock VS.unlocked
        split
        · rename_i hk
          have hk1 : a.kind = 1 := by simpa using hk
          refine h.ends hI 0 _ _ ha hx (.inl h4) (fun h5 => by omega) (fun _ hf => by simp [hf]) (fun _ hf => by simp [hf])
        rename_i hk
        have hk1 : a.kind ≠ 1 := by simpa using hk
        split
        · exact h.ends hI _ _ _ ha hx (.inl h4) (fun h5 => by omega) (fun hc => absurd hc hk1) (fun hc => absurd hc hk1)
        rename_i hf
        split
        · exact h.ends hI _ _ _ ha hx (.inl h4) (fun h5 => by omega) (fun hc => absurd hc hk1) (fun hc => absurd hc hk1)
        · rename_i hk2
          have hk2' : a.kind ≠ 2 := by simpa using hk2
          exact h.turn hI (y := { x with next := 5 }) ha hx rfl _ rfl rfl rfl rfl (Nat.lt_succ_self _) (by omega) (.inl ⟨rfl, by omega⟩) (.inl ⟨rfl, by omega⟩) (fun hc => by cases hc) (fun hc => by cases hc) (fun hc => by cases hc) (fun _ => ⟨hk1, hk2'⟩) (fun _ => hk1)
      split
      · rename_i h1 h2 h3 h4 h5
        have h55 : x.next = 5 := by omega
        have hk1 := (h.n5 i x a hx ha h55).1
        exact h.ends hI _ _ V.own ha hx (.inr h55) (fun _ => hk1) (fun hc => absurd hc hk1) (fun hc => absurd hc hk1)
      · exact h
end VS
end Go.Proofs.Ytimkoepaeebleaa
