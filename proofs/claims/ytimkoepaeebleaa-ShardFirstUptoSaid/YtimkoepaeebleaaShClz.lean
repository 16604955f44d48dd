/- slices.Clone at asks, whatever the row: one contract. -/
import Derived.Test.YtimkoepaeebleaaShClo
import Derived.Test.YtimkoepaeebleaaShTab
namespace Go.Proofs.Ytimkoepaeebleaa
open Go.RowKit

theorem run_append_zero {P : Program} {w : World} (t ty e : TypeId) (i : TypeInfo) (ht : P.underlying t = some (.slice e)) (hi : P.info? e = some i)
    (g n cap : Nat) (hc : n ≤ cap) (A : Option Addr) (c : Nat) : (Builtin.append_ #[t, t] ty #[.slice (some ⟨g, 0, none⟩) n cap, .slice A 0 c]).run P w = .ok (.slice (some ⟨g, 0, none⟩) n cap) w := by
  cases A <;> simp [Builtin.append_, run_underlying ht, sizeOf, typeInfo, hi, Builtin.lenOf, Builtin.firstCells, hc, storeCells, loadCells, loadCellsFrom]

def Ask.cells (a : Ask) : List Value := [.int .i64 a.kind, .string a.key, .int .i64 a.value]
theorem acells_len (a : Ask) : a.cells.length = 3 := rfl
theorem askRow_get {w : World} {S : Nat → Prop} {ad : Addr} {asks : List Ask} (h : AskRow w S (some ad) asks) (j : Nat) (u : Value) (hj : (asks.flatMap Ask.cells)[j]? = some u) : w.cell? (ad.add j) = some u := by
  have hjl : j < asks.length * 3 := by rw [← flat_len Ask.cells 3 acells_len]; exact (List.getElem?_eq_some_iff.1 hj).1
  have hd : j / 3 < asks.length := by omega
  obtain ⟨a, ha⟩ : ∃ a, asks[j / 3]? = some a := ⟨asks[j / 3], List.getElem?_eq_getElem hd⟩
  obtain ⟨b, off, h1, _, _, h4, h5, h6⟩ := h _ a ha
  obtain rfl := Option.some.inj h1
  have hg := flat_get Ask.cells 3 acells_len asks (j / 3) (j % 3) (Nat.mod_lt _ (by omega))
  rw [show j / 3 * 3 + j % 3 = j by omega, hj, ha] at hg
  have e : (⟨b, off, none⟩ : Addr).add j = ⟨b, off + j, none⟩ := by unfold Addr.add; split <;> simp_all
  rw [e]
  simp only [Option.bind_some] at hg
  have hj2 : j = j / 3 * 3 + j % 3 := by omega
  have hm : j % 3 = 0 ∨ j % 3 = 1 ∨ j % 3 = 2 := by omega
  rcases hm with hm | hm | hm
  · rw [hm] at hg hj2
    obtain rfl : u = .int .i64 a.kind := by simpa [Ask.cells] using hg
    rw [show off + j = off + j / 3 * 3 by omega]
    exact h4
  · rw [hm] at hg hj2
    obtain rfl : u = .string a.key := by simpa [Ask.cells] using hg
    rw [show off + j = off + j / 3 * 3 + 1 by omega]
    exact h5
  · rw [hm] at hg hj2
    obtain rfl : u = .int .i64 a.value := by simpa [Ask.cells] using hg
    rw [show off + j = off + j / 3 * 3 + 2 by omega]
    exact h6
theorem askRow_mk {w : World} {base m cap g : Nat} {asks : List Ask} (hm : m = asks.length) (h : w.ownsRow base 70 3 (.slice (some ⟨g, 0, none⟩) m cap) m (asks.flatMap Ask.cells)) :
    m ≤ cap ∧ AskRow w (fun b => base ≤ b ∧ ∃ cur, Blk w b 70 cur) (some ⟨g, 0, none⟩) asks := by
  subst hm
  rcases h.2 with ⟨h0, _⟩ | ⟨g', cap', cur, hv, hb, hh, hc, _, hs, ht⟩
  · cases h0
  · simp only [Value.slice.injEq, Option.some.injEq, Addr.mk.injEq] at hv
    obtain ⟨⟨rfl, _⟩, _, rfl⟩ := hv
    refine ⟨hc, fun k a hk => ⟨g, 0, rfl, ⟨hb, cur, hh⟩, lt_of_heap hh, ?_⟩⟩
    have hkl : k < asks.length := (List.getElem?_eq_some_iff.1 hk).1
    have q : ∀ r, r < 3 → w.cell? ⟨g, k * 3 + r, none⟩ = a.cells[r]? := fun r hr => by
      have := flat_get Ask.cells 3 acells_len asks k r hr
      rw [← ht, List.getElem?_take, if_pos (by omega), hk] at this
      rw [cell_of_heap hh]
      simpa using this
    refine ⟨?_, ?_, ?_⟩
    · rw [Nat.zero_add]; exact q 0 (by omega)
    · rw [Nat.zero_add]; exact q 1 (by omega)
    · rw [Nat.zero_add]; exact q 2 (by omega)

def CloneRow (w : World) (asks : List Ask) (e : Ending) (w' : World) : Prop :=
  ∃ A' c', e = .returned (.slice A' asks.length c') ∧ asks.length ≤ c' ∧ AskRow w' (fun b => w.heap.size ≤ b ∧ ∃ cur, Blk w' b 70 cur) A' asks ∧ Below w.heap.size w w'
theorem AskRow.nil (w : World) (S : Nat → Prop) (A : Option Addr) : AskRow w S A [] := fun k a h => by simp at h

set_option maxRecDepth 100000 in
set_option maxHeartbeats 1000000 in
theorem CloneAsk0 (w : World) (A : Option Addr) (c : Nat) : Calls Try.prog 34 #[.slice A 0 c] w (CloneRow w []) := by
  have e1 := fun (W : World) => Lib.run_eql_slice_nil (P := Try.prog) W 71 70 A 0 c 0 0 Try.underlying71
  obtain ⟨i0, hi, hz0, hz1, hz2⟩ := info_parts infoAsk
  cases A with
  | none =>
    go_enter Try.func34, Try.ntmps34
    go_wp2
    refine bodyPost_ret (v := .slice none 0 0) (by simp [results, Try.results34, go_sem]) rfl ?_
    exact ⟨none, 0, rfl, Nat.le_refl _, AskRow.nil _ _ _, Below.refl _ _⟩
  | some ad =>
    have ra := fun (W : World) (g : Nat) => run_append_zero (P := Try.prog) (w := W) 71 71 70 i0 Try.underlying71 hi g 0 0 (Nat.le_refl _) (some ad) c
    go_enter Try.func34, Try.ntmps34
    go_wp2
    refine bodyPost_ret (v := .slice (some ⟨w.heap.size, 0, none⟩) 0 0) (by simp [results, Try.results34, go_sem]) rfl ?_
    exact ⟨_, 0, rfl, Nat.le_refl _, AskRow.nil _ _ _, (by (repeat (first | with_reducible exact Below.refl _ _ | (with_reducible refine bl_drew ?_) | (with_reducible refine bl_drewN ?_) | (with_reducible refine bl_alloc ?_ ?_; (focus (first | omega | (simp; done) | (simp; omega)))) | (with_reducible refine bl_set ?_ ?_; (focus (first | omega | (simp; done) | (simp; omega)))) | (with_reducible refine bl_trans ?_ (by assumption) ?_; (focus (first | omega | (simp; done) | (simp; omega)))))))⟩
theorem CloneAsks (w : World) (S : Nat → Prop) (A : Option Addr) (c : Nat) (asks : List Ask) (h : AskRow w S A asks) (hl : asks.length ≤ 1000000) : Calls Try.prog 34 #[.slice A asks.length c] w (CloneRow w asks) := by
  rcases Nat.eq_zero_or_pos asks.length with h0 | h0
  · obtain rfl := List.eq_nil_of_length_eq_zero h0
    exact CloneAsk0 w A c
  · obtain ⟨a, ha⟩ : ∃ a, asks[0]? = some a := ⟨asks[0], List.getElem?_eq_getElem h0⟩
    obtain ⟨b, off, rfl, _, hb, _⟩ := h 0 a ha
    refine (CloneAsk w ⟨b, off, none⟩ asks.length c (asks.flatMap Ask.cells) (flat_len Ask.cells 3 acells_len _) (askRow_get h) (fun u hu => ?_) h0 hl hb).mono ?_
    · obtain ⟨a, _, hc⟩ := List.mem_flatMap.1 hu
      simp [Ask.cells] at hc
      rcases hc with rfl | rfl | rfl <;> rfl
    · rintro e w' ⟨g, cap, rfl, hown, hbl⟩
      obtain ⟨h1, h2⟩ := askRow_mk rfl hown
      exact ⟨_, cap, rfl, h1, h2, hbl⟩
end Go.Proofs.Ytimkoepaeebleaa
