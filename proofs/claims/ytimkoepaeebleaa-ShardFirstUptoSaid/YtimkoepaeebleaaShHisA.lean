/- What a table tells: its history, an empty one too. -/
import Derived.Test.YtimkoepaeebleaaShLook
import Derived.Test.YtimkoepaeebleaaShBgn
import Derived.Test.YtimkoepaeebleaaShClz
namespace Go.Proofs.Ytimkoepaeebleaa
open Go.RowKit

/-- A row of calls, wherever it lies. -/
def Calls8 (w : World) (A : Option Addr) (l : List CallR) : Prop := ∀ (j : Nat) (c : CallR), l[j]? = some c → ∃ g, A = some ⟨g, 0, none⟩ ∧ g < w.heap.size ∧ ∀ k, k < 8 → w.cell? ⟨g, j * 8 + k, none⟩ = c.cells[k]?
theorem Calls8.below {w w' : World} {A : Option Addr} {l : List CallR} (h : Calls8 w A l) (hb : Below w.heap.size w w') : Calls8 w' A l := fun j c hj => by
  obtain ⟨g, h1, h2, h3⟩ := h j c hj
  exact ⟨g, h1, Nat.lt_of_lt_of_le h2 hb.size, fun k hk => (hb.cell (p := ⟨g, j * 8 + k, none⟩) h2).trans (h3 k hk)⟩
def HistPost (w : World) (l : List CallR) (e : Ending) (w' : World) : Prop := ∃ A c, e = .returned (.slice A l.length c) ∧ l.length ≤ c ∧ Calls8 w' A l ∧ (∀ g, A = some ⟨g, 0, none⟩ → w.heap.size ≤ g) ∧ Below w.heap.size w w'

set_option maxRecDepth 100000 in
set_option maxHeartbeats 1000000 in
theorem CloneCall0 (w : World) (A : Option Addr) (c : Nat) : Calls Try.prog 46 #[.slice A 0 c] w (HistPost w []) := by
  have e1 := fun (W : World) => Lib.run_eql_slice_nil (P := Try.prog) W 44 46 A 0 c 0 0 Try.underlying44
  obtain ⟨i0, hi, hz0, hz1, hz2⟩ := info_parts infoCall
  cases A with
  | none =>
    go_enter Try.func46, Try.ntmps46
    go_wp2
    refine bodyPost_ret (v := .slice none 0 0) (by simp [results, Try.results46, go_sem]) rfl ?_
    exact ⟨none, 0, rfl, Nat.le_refl _, (fun j c hj => by simp at hj), (fun g hg => by cases hg), Below.refl _ _⟩
  | some ad =>
    have ra := fun (W : World) (g : Nat) => run_append_zero (P := Try.prog) (w := W) 44 44 46 i0 Try.underlying44 hi g 0 0 (Nat.le_refl _) (some ad) c
    go_enter Try.func46, Try.ntmps46
    go_wp2
    refine bodyPost_ret (v := .slice (some ⟨w.heap.size, 0, none⟩) 0 0) (by simp [results, Try.results46, go_sem]) rfl ?_
    exact ⟨_, 0, rfl, Nat.le_refl _, (fun j c hj => by simp at hj), (fun g hg => by injection hg with hg; injection hg with hg; omega), (by (repeat (first | with_reducible exact Below.refl _ _ | (with_reducible refine bl_drew ?_) | (with_reducible refine bl_drewN ?_) | (with_reducible refine bl_alloc ?_ ?_; (focus (first | omega | (simp; done) | (simp; omega)))) | (with_reducible refine bl_set ?_ ?_; (focus (first | omega | (simp; done) | (simp; omega)))) | (with_reducible refine bl_trans ?_ (by assumption) ?_; (focus (first | omega | (simp; done) | (simp; omega)))))))⟩
theorem hist_of_clone {w : World} {l : List CallR} {e : Ending} {w' : World} (h : ClonePost 46 8 w l.length (l.flatMap CallR.cells) e w') : HistPost w l e w' := by
  obtain ⟨g, cap, rfl, hown, hb⟩ := h
  have hr := callRow_own hown
  have hgb := (hown.lt g rfl)
  rcases hown.2 with ⟨h0, _⟩ | ⟨g', cap', cur, hv, _, _, hc, _⟩
  · cases h0
  · simp only [Value.slice.injEq, Option.some.injEq, Addr.mk.injEq] at hv
    obtain ⟨⟨rfl, _⟩, _, rfl⟩ := hv
    exact ⟨_, cap, rfl, hc, fun j c hj => ⟨g, rfl, hgb.2, fun k hk => hr j c hj k hk⟩, (fun g1 hg => by injection hg with hg; injection hg with hg; omega), hb⟩
theorem History_any {Z : Nat → Prop} {w : World} {bt : Nat} {V : VS} (h : Live Z w bt V) (hl : V.past.length ≤ 1000000) :
    Calls Try.prog 27 #[.pointer (some ⟨bt, 0, none⟩)] w (HistPost w V.past) := by
  rcases Nat.eq_zero_or_pos V.past.length with h0 | h0
  · have hn : V.past = [] := List.eq_nil_of_length_eq_zero h0
    obtain ⟨⟨S, R, T, h1, h2, rfl, rfl, h5, h6⟩, _⟩ := h
    rw [hn]
    have c7 := h1.c7
    have hp := h1.past
    rw [show T.past = [] from hn] at hp
    obtain ⟨A, c, hv⟩ := own_form hp
    rw [hv] at c7
    have HC := Lib.hid (CloneCall0 w A c)
    clear h1 h2 hp hv h0 hn hl
    go_enter Try.func27, Try.ntmps27
    go_wp2_with fail
    refine HC.out.mono ?_
    rintro e w' ⟨A', c', rfl, hp⟩
    have HP := Lib.hid hp
    clear hp
    go_wp2_with fail
    refine bodyPost_ret (v := .slice A' 0 c') (by simp [results, Try.results27, go_sem, *]) rfl (⟨A', c', rfl, HP.out⟩)
  · exact (History_live h h0 hl).mono fun e w' => hist_of_clone
end Go.Proofs.Ytimkoepaeebleaa
