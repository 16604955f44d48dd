/- Where nobody can go on: what the history and the values are then. -/
import Derived.Test.YtimkoepaeebleaaShInv
import Derived.Test.YtimkoepaeebleaaShHisA
import Derived.Test.YtimkoepaeebleaaShAll
namespace Go.Proofs.Ytimkoepaeebleaa
open Go.RowKit

namespace VS
theorem mem_put {α β : Type} [DecidableEq α] {M : List (α × β)} {k : α} {v : β} {p : α × β} (h : p ∈ mput M k v) : p = (k, v) ∨ p ∈ M := by
  unfold mput at h
  split at h
  · obtain ⟨q, hq, e⟩ := List.mem_map.1 h
    split at e
    · exact .inl e.symm
    · exact .inr (e ▸ hq)
  · rcases List.mem_append.1 h with h | h
    · exact .inr h
    · exact .inl (List.mem_singleton.1 h)
theorem step_values (V : VS) (i : Nat) : (V.step i).values = V.values ∨ ∃ a, V.askOf i = some a ∧ (V.step i).values = mput V.values a.key a.value := by
  unfold VS.step
  cases ha : V.askOf i with
  | none => exact .inl rfl
  | some a =>
    cases V.hands i with
    | none => simp only; split <;> exact .inl rfl
    | some x =>
      simp only
      unfold VS.held VS.look VS.unlock VS.unlocked VS.end_ VS.hand
      split
      · exact .inl rfl
      split
      · exact .inr ⟨a, rfl, rfl⟩
      split
      · exact .inl rfl
      split
      · split
        · exact .inl rfl
        split
        · exact .inl rfl
        split <;> exact .inl rfl
      split <;> exact .inl rfl
/-- Names are no longer than they may be. -/
def Ksz (V : VS) : Prop := (∀ l ∈ V.work, ∀ a ∈ l, a.key.size ≤ 1048576) ∧ ∀ p ∈ V.values, p.1.size ≤ 1048576
theorem Ksz.step {V : VS} (h : V.Ksz) (i : Nat) : (V.step i).Ksz := by
  refine ⟨by rw [work_step]; exact h.1, fun p hp => ?_⟩
  rcases step_values V i with e | ⟨a, ha, e⟩
  · rw [e] at hp; exact h.2 p hp
  · rw [e] at hp
    rcases mem_put hp with rfl | hp
    · obtain ⟨l, k, hl, _, hk⟩ := askOf_lt ha
      exact h.1 l (List.mem_of_getElem? hl) a (List.mem_of_getElem? hk)
    · exact h.2 p hp

/-- Who is not done where nobody can go on: it awaits a name that has no value. -/
theorem quiet_waits {V : VS} (hI : V.Inv) (h3 : V.Inv3) (hq : V.Quiet) {i : Nat} (hd : V.done i = false) : ∃ x a, V.hands i = some x ∧ V.askOf i = some a ∧ x.next = 5 ∧ mget V.values a.key = none := by
  have hold : ∀ (j : Nat) (x : VH) (a : Ask), V.hands j = some x → V.askOf j = some a → x.next = 5 ∧ V.isTold a.key = false := fun j x a hx ha => by
    have hdj : V.done j = false := by unfold VS.done; rw [ha]; rfl
    rcases hq j (real_lt hdj) with h | h
    · rw [hdj] at h; cases h
    · unfold VS.waits at h
      rw [ha, hx] at h
      simpa using h
  cases ha : V.askOf i with
  | none => unfold VS.done at hd; rw [ha] at hd; cases hd
  | some a =>
    have hw : V.waits i = true := by
      rcases hq i (real_lt hd) with h | h
      · rw [hd] at h; cases h
      · exact h
    cases hx : V.hands i with
    | none =>
      unfold VS.waits at hw
      rw [ha, hx] at hw
      simp only at hw
      obtain ⟨o, ho⟩ : ∃ o, V.own[shNo V.nsh a]? = some o := ⟨V.own[shNo V.nsh a]'(by rw [hI.len_own]; exact shNo_lt _ _ hI.pos), List.getElem?_eq_getElem _⟩
      rcases hI.owner _ o ho with h0 | ⟨j, z, b, _, h2, h5, h6, _⟩
      · rw [ho, h0] at hw
        simp at hw
      · exact absurd (hold j z b h2 h6).1 h5
    | some x =>
      obtain ⟨h5, ht⟩ := hold i x a hx ha
      refine ⟨x, a, rfl, rfl, h5, ?_⟩
      cases hm : mget V.values a.key with
      | none => rfl
      | some v =>
        obtain ⟨j, z, b, q1, q2, q3, _⟩ := h3.untold a.key (by rw [hm]; rfl) ht
        have := (hold j z b q1 q2).1
        omega
theorem quiet_pend {V : VS} (hq : V.Quiet) (i : Nat) (k : ByteArray) : ¬ V.Pend i k := fun ⟨x, a, h1, h2, _, _, h5, _⟩ => by
  have hdj : V.done i = false := by unfold VS.done; rw [h2]; rfl
  rcases hq i (real_lt hdj) with h | h
  · rw [hdj] at h; cases h
  · unfold VS.waits at h
    rw [h2, h1] at h
    simp at h
    omega
end VS

/-- The names that a history's defines put, and their values. -/
def okB (c : CallR) : Bool := decide (c.kind = 1) && decide (0 ≤ c.to) && decide (c.err = 0)
theorem okB_iff (c : CallR) : okB c = true ↔ VS.okDef c := by
  unfold okB VS.okDef
  simp [and_assoc]
def putsOf (l : List CallR) : List (ByteArray × Int) := (l.filter okB).map fun c => (c.key, c.value)
/-- The calls that did not end, each at its worker. -/
def opens (l : List CallR) (M : List (Nat × CallR)) : Prop := ∀ (i : Nat) (c : CallR), mget M i = some c ↔ ∃ n : Nat, l[n]? = some c ∧ c.to < 0 ∧ c.worker = i

theorem putsOf_snoc (l : List CallR) (c : CallR) : putsOf (l ++ [c]) = if okB c then putsOf l ++ [(c.key, c.value)] else putsOf l := by
  unfold putsOf
  rw [List.filter_append, List.map_append]
  cases h : okB c <;> simp [h]
theorem mem_putsOf {l : List CallR} {p : ByteArray × Int} : p ∈ putsOf l ↔ ∃ (n : Nat) (c : CallR), l[n]? = some c ∧ VS.okDef c ∧ p = (c.key, c.value) := by
  unfold putsOf
  rw [List.mem_map]
  constructor
  · rintro ⟨c, hc, rfl⟩
    obtain ⟨hm, hok⟩ := List.mem_filter.1 hc
    obtain ⟨n, hn⟩ := List.mem_iff_getElem?.1 hm
    exact ⟨n, c, hn, (okB_iff c).1 hok, rfl⟩
  · rintro ⟨n, c, hn, hok, rfl⟩
    exact ⟨c, List.mem_filter.2 ⟨List.mem_of_getElem? hn, (okB_iff c).2 hok⟩, rfl⟩
/-- Behind n calls the next define's name is new. -/
theorem puts_new {V : VS} (h3 : V.Inv3) {n : Nat} {c : CallR} (hc : V.past[n]? = some c) (hok : VS.okDef c) : mget (putsOf (V.past.take n)) c.key = none := by
  cases hm : mget (putsOf (V.past.take n)) c.key with
  | none => rfl
  | some v =>
    obtain ⟨m, d, hd, hok2, e⟩ := mem_putsOf.1 (mget_some_mem hm)
    rw [List.getElem?_take] at hd
    split at hd
    · rename_i hlt
      have := h3.apart m n d c hd hc hok2 hok (by injection e with e; exact e.symm)
      omega
    · cases hd
theorem puts_apart {V : VS} (h3 : V.Inv3) : ∀ n, n ≤ V.past.length → Apart (putsOf (V.past.take n))
  | 0, _ => by simp [putsOf, Apart]
  | n + 1, hn => by
    obtain ⟨c, hc⟩ : ∃ c, V.past[n]? = some c := ⟨_, List.getElem?_eq_getElem hn⟩
    rw [List.take_add_one, hc, Option.toList_some, putsOf_snoc]
    have ih := puts_apart h3 n (by omega)
    split
    · rename_i hok
      have hnew := puts_new h3 hc ((okB_iff c).1 hok)
      have : mput (putsOf (V.past.take n)) c.key c.value = putsOf (V.past.take n) ++ [(c.key, c.value)] := by
        unfold mput; rw [if_neg (by rw [hnew]; simp)]
      rw [← this]
      exact ih.put _ _
    · exact ih
/-- As many names have a value as defines were OK. -/
theorem puts_len {V : VS} (h3 : V.Inv3) (hq : V.Quiet) : (putsOf V.past).length = V.values.length := by
  have h1 : ((putsOf V.past).map (·.1)).Nodup := (apart_iff _).1 (by have := puts_apart h3 V.past.length (Nat.le_refl _); rwa [List.take_length] at this)
  have h2 : (V.values.map (·.1)).Nodup := (apart_iff _).1 h3.vapart
  have hp : ((putsOf V.past).map (·.1)).Perm (V.values.map (·.1)) := by
    refine (List.perm_ext_iff_of_nodup h1 h2).2 fun k => ?_
    constructor
    · intro hk
      obtain ⟨p, hp, rfl⟩ := List.mem_map.1 hk
      obtain ⟨n, c, hc, hok, rfl⟩ := mem_putsOf.1 hp
      exact List.mem_map.2 ⟨_, mget_some_mem (h3.good n c hc hok), rfl⟩
    · intro hk
      obtain ⟨p, hp, rfl⟩ := List.mem_map.1 hk
      have hs : (mget V.values p.1).isSome = true := by
        cases hm : mget V.values p.1 with
        | none => exact absurd rfl (mget_none hm p hp)
        | some v => rfl
      rcases h3.cover p.1 hs with ⟨n, c, hc, hok, e⟩ | ⟨i, hpd⟩
      · exact List.mem_map.2 ⟨_, mem_putsOf.2 ⟨n, c, hc, hok, rfl⟩, e⟩
      · exact absurd hpd (VS.quiet_pend hq i _)
  have := hp.length_eq
  simpa using this
theorem opens_nil : opens [] [] := fun i c => by simp [mget_nil]
/-- One call more. -/
theorem opens_snoc {V : VS} (h3 : V.Inv3) {n : Nat} {c : CallR} (hc : V.past[n]? = some c) {M : List (Nat × CallR)} (h : opens (V.past.take n) M) :
    (c.to < 0 → ∀ i : Nat, c.worker = i → opens (V.past.take (n + 1)) (mput M i c)) ∧ (¬ c.to < 0 → opens (V.past.take (n + 1)) M) := by
  have hnl : n < V.past.length := (List.getElem?_eq_some_iff.1 hc).1
  have hto : ∀ (m : Nat) (d : CallR), (V.past.take n)[m]? = some d → m < n ∧ V.past[m]? = some d := fun m d hd => by
    rw [List.getElem?_take] at hd
    split at hd
    · rename_i hm; exact ⟨hm, hd⟩
    · cases hd
  have hfrom : ∀ (m : Nat) (d : CallR), m ≤ n → V.past[m]? = some d → (V.past.take (n + 1))[m]? = some d := fun m d hm hd => by
    rw [List.getElem?_take, if_pos (by omega)]; exact hd
  have hto' : ∀ (m : Nat) (d : CallR), (V.past.take (n + 1))[m]? = some d → m ≤ n ∧ V.past[m]? = some d := fun m d hd => by
    rw [List.getElem?_take] at hd
    split at hd
    · rename_i hm; exact ⟨by omega, hd⟩
    · cases hd
  constructor
  · intro h0 i hi j d
    rw [mget_put]
    by_cases hij : i = j
    · subst hij
      rw [if_pos rfl]
      constructor
      · intro e
        obtain rfl := Option.some.inj e
        exact ⟨n, hfrom n c (Nat.le_refl _) hc, h0, hi⟩
      · rintro ⟨m, hm, hd0, hdw⟩
        obtain ⟨hmn, hmd⟩ := hto' m d hm
        obtain ⟨i1, x1, q1, q2, q3⟩ := h3.open_ n c hc h0
        obtain ⟨i2, x2, r1, r2, r3⟩ := h3.open_ m d hmd hd0
        have : i1 = i2 := by rw [hi] at q1; rw [hdw] at r1; omega
        subst this
        rw [q2] at r2
        obtain rfl := Option.some.inj r2
        have : m = n := r3.symm.trans q3
        subst this
        rw [hc] at hmd
        exact hmd
    · rw [if_neg hij]
      constructor
      · intro e
        obtain ⟨m, hm, hd⟩ := (h j d).1 e
        obtain ⟨h1, h2⟩ := hto m d hm
        exact ⟨m, hfrom m d (by omega) h2, hd⟩
      · rintro ⟨m, hm, hd0, hdw⟩
        obtain ⟨hmn, hmd⟩ := hto' m d hm
        refine (h j d).2 ⟨m, ?_, hd0, hdw⟩
        have : m ≠ n := fun e => by
          subst e
          rw [hc] at hmd
          obtain rfl := Option.some.inj hmd
          rw [hi] at hdw
          omega
        rw [List.getElem?_take, if_pos (by omega)]; exact hmd
  · intro h0 j d
    constructor
    · intro e
      obtain ⟨m, hm, hd⟩ := (h j d).1 e
      obtain ⟨h1, h2⟩ := hto m d hm
      exact ⟨m, hfrom m d (by omega) h2, hd⟩
    · rintro ⟨m, hm, hd0, hdw⟩
      obtain ⟨hmn, hmd⟩ := hto' m d hm
      refine (h j d).2 ⟨m, ?_, hd0, hdw⟩
      have : m ≠ n := fun e => by
        subst e
        rw [hc] at hmd
        obtain rfl := Option.some.inj hmd
        exact h0 hd0
      rw [List.getElem?_take, if_pos (by omega)]; exact hmd

/-- All, at a table. -/
theorem All_live {Z : Nat → Prop} {w : World} {bt : Nat} {V : VS} (h : Live Z w bt V) (hk : V.Ksz) (hl : V.values.length ≤ 1000000) : Calls Try.prog 31 #[.pointer (some ⟨bt, 0, none⟩)] w (AllPost w V.values) := by
  obtain ⟨⟨S, R, T, h1, h2, rfl, rfl, h5, h6⟩, _⟩ := h
  exact All_some w T.bt T.vb T.values (h1.lt _ h1.s_bt) h1.c5 h1.values hk.2 hl
end Go.Proofs.Ytimkoepaeebleaa
