/- What a table tells, by its plain state. -/
import Derived.Test.YtimkoepaeebleaaShIni
import Derived.Test.YtimkoepaeebleaaShHis
namespace Go.Proofs.Ytimkoepaeebleaa
open Go.RowKit

theorem Workers_live {Z : Nat → Prop} {w : World} {bt : Nat} {V : VS} (h : Live Z w bt V) : Calls Try.prog 15 #[.pointer (some ⟨bt, 0, none⟩)] w fun e w' => e = .returned (.int .i64 V.work.length) ∧ w = w' := by
  obtain ⟨⟨S, R, T, h1, h2, rfl, rfl, h5, h6⟩, _⟩ := h
  exact Workers_any w S R T h1
theorem Done_live {Z : Nat → Prop} {w : World} {bt : Nat} {V : VS} (h : Live Z w bt V) (i : Nat) : Calls Try.prog 17 #[.pointer (some ⟨bt, 0, none⟩), .int .i64 i] w fun e w' => e = .returned (.bool (V.done i)) ∧ ∃ n, w' = w.drewN n := by
  obtain ⟨⟨S, R, T, h1, h2, rfl, rfl, h5, h6⟩, _⟩ := h
  by_cases hi : T.work.length ≤ i
  · have e : T.vs.done i = true := by
      unfold VS.done VS.askOf
      rw [show T.vs.work[i]? = none from List.getElem?_eq_none hi]
      rfl
    rw [e]
    exact Done_out w S R T h1 i (.inr (by omega))
  · obtain ⟨l, hl⟩ : ∃ l, T.work[i]? = some l := ⟨T.work[i]'(by omega), List.getElem?_eq_getElem _⟩
    obtain ⟨k, hk⟩ : ∃ k, T.at_[i]? = some k := ⟨T.at_[i]'(by rw [h1.len_at]; omega), List.getElem?_eq_getElem _⟩
    have e : T.vs.done i = decide (k = l.length) := by
      have h3 := h2.inv.le i l k hl hk
      unfold VS.done
      rw [VS.askOf_of (V := T.vs) hl hk]
      by_cases hkl : k = l.length
      · subst hkl; simp
      · have : k < l.length := by omega
        simp [hkl, this]
    rw [e]
    exact Done_in w S R T h1 i k l hl hk
theorem Done_neg {Z : Nat → Prop} {w : World} {bt : Nat} {V : VS} (h : Live Z w bt V) : Calls Try.prog 17 #[.pointer (some ⟨bt, 0, none⟩), .int .i64 (-1)] w fun e w' => e = .returned (.bool true) ∧ ∃ n, w' = w.drewN n := by
  obtain ⟨⟨S, R, T, h1, h2, rfl, rfl, h5, h6⟩, _⟩ := h
  exact Done_out w S R T h1 (-1) (.inl (by omega))
theorem Waits_neg {Z : Nat → Prop} {w : World} {bt : Nat} {V : VS} (h : Live Z w bt V) : Calls Try.prog 18 #[.pointer (some ⟨bt, 0, none⟩), .int .i64 (-1)] w fun e w' => e = .returned (.bool false) ∧ ∃ n, w' = w.drewN n := by
  have HD := Lib.hid (Done_neg h)
  clear h
  go_enter Try.func18, Try.ntmps18
  go_wp2_with fail
  refine HD.out.mono ?_
  rintro e w' ⟨rfl, n, rfl⟩
  go_wp2_with fail
  go_ret
  exact ⟨rfl, n, rfl⟩
theorem Waits_live {Z : Nat → Prop} {w : World} {bt : Nat} {V : VS} (h : Live Z w bt V) (i : Nat) : Calls Try.prog 18 #[.pointer (some ⟨bt, 0, none⟩), .int .i64 i] w fun e w' => e = .returned (.bool (V.waits i)) ∧ Below w.heap.size w w' := by
  have HDl := Done_live h i
  obtain ⟨⟨S, R, T, h1, h2, rfl, rfl, h5, h6⟩, _⟩ := h
  have hI := h2.inv
  cases ha : T.vs.askOf i with
  | none =>
    have e : T.vs.waits i = false := by unfold VS.waits; rw [ha]
    have e2 : T.vs.done i = true := by unfold VS.done; rw [ha]; rfl
    rw [e]
    rw [e2] at HDl
    have HD := Lib.hid HDl
    clear HDl e e2 ha hI h1 h2 h5 h6
    go_enter Try.func18, Try.ntmps18
    go_wp2_with fail
    refine HD.out.mono ?_
    rintro e w' ⟨rfl, n, rfl⟩
    go_wp2_with fail
    go_ret
    exact ⟨rfl, bl_drewN (Below.refl _ _)⟩
  | some a =>
    obtain ⟨l, k, hl, hk, hak⟩ := VS.askOf_lt ha
    have hl : T.work[i]? = some l := hl
    have hk : T.at_[i]? = some k := hk
    have hkl : k < l.length := (List.getElem?_eq_some_iff.1 hak).1
    cases hx : T.vs.hands i with
    | none =>
      have hn := vs_none hx
      have hno : nextOf T i = 0 := by simp [nextOf, hn]
      obtain ⟨o, ho⟩ : ∃ o, T.own[shOf T a]? = some o := by
        have : shOf T a < T.own.length := by rw [show T.own.length = T.nsh from hI.len_own]; exact (shOf_eq h1 a).2
        exact ⟨_, List.getElem?_eq_getElem this⟩
      have hoi : o ≠ i := by
        rcases hI.owner _ o ho with h0 | ⟨j, z, b, h0, h2, _⟩
        · omega
        · intro e
          have : j = i := by omega
          subst this
          rw [hx] at h2
          cases h2
      have e : T.vs.waits i = !decide (o = -1) := by
        unfold VS.waits
        rw [ha]
        simp only [hx]
        rw [show T.vs.own[shNo T.vs.nsh a]? = some o from ho]
        simp
      rw [e]
      exact Waits_lock w S R T h1 i k l a hl hk hak hno o ho hoi (own_ok hI _ o ho)
    | some y =>
      obtain ⟨x, hm, rfl⟩ := vs_some hx
      have hno : nextOf T i = x.next := by simp [nextOf, hm]
      obtain ⟨b, hb, hat, hx1, hx5, hown⟩ := hI.held i _ hx
      have hx1 : 1 ≤ x.next := hx1
      have e : T.vs.waits i = (decide (x.next = 5) && !T.vs.isTold a.key) := by
        unfold VS.waits
        rw [ha]
        simp only [hx]
        rfl
      rw [e]
      by_cases h5 : x.next = 5
      · rw [show decide (x.next = 5) = true by simpa using h5, Bool.true_and]
        exact Waits_told w S R T h1 i k l a hl hk hak (hno.trans h5)
      · rw [show decide (x.next = 5) = false by simpa using h5, Bool.false_and]
        exact (Waits_other w S R T h1 i k l hl hk hkl (by omega) (by omega)).mono fun e w' ⟨q1, m, q2⟩ => ⟨q1, by rw [q2]; exact bl_drewN (Below.refl _ _)⟩
theorem Get_live {Z : Nat → Prop} {w : World} {bt : Nat} {V : VS} (h : Live Z w bt V) (key : ByteArray) : Calls Try.prog 22 #[.pointer (some ⟨bt, 0, none⟩), .string key] w (GetPost w ((mget V.values key).getD 0) (mget V.values key).isSome) := by
  obtain ⟨⟨S, R, T, h1, h2, rfl, rfl, h5, h6⟩, _⟩ := h
  exact Get_in w S R T h1 key _ _ rfl rfl
theorem History_live {Z : Nat → Prop} {w : World} {bt : Nat} {V : VS} (h : Live Z w bt V) (h0 : 0 < V.past.length) (hl : V.past.length ≤ 1000000) :
    Calls Try.prog 27 #[.pointer (some ⟨bt, 0, none⟩)] w (ClonePost 46 8 w V.past.length (V.past.flatMap CallR.cells)) := by
  obtain ⟨⟨S, R, T, h1, h2, rfl, rfl, h5, h6⟩, _⟩ := h
  exact History_in w S R T h1 h0 hl
end Go.Proofs.Ytimkoepaeebleaa
