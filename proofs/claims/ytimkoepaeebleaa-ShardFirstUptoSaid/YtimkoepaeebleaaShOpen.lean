/- How the calls and the picks that are handed in lie in memory, and how large they are. -/
import Derived.Test.YtimkoepaeebleaaShRun
import Derived.Test.YtimkoepaeebleaaLaw
import Derived.ChangeArms
import Derived.Deep.Slices
namespace Go.Proofs.Ytimkoepaeebleaa
open Go.ChangeShapes Go.WideShapes Go.ChangeAt Go.RowKit

theorem plain_addr {w : World} {a : Addr} {v : Value} (h : w.cell? a = some v) : a = ⟨a.block, a.off, none⟩ := by
  obtain ⟨b, o, sp⟩ := a
  cases sp with
  | none => rfl
  | some s =>
    unfold World.cell? at h
    simp only [Option.isSome_some, if_true] at h
    split at h <;> cases h
theorem plain_add (b o k : Nat) : (⟨b, o, none⟩ : Addr).add k = ⟨b, o + k, none⟩ := by
  unfold Addr.add
  split <;> simp_all

theorem list_of {α : Type} {p : Nat → α → Prop} : ∀ (n : Nat), (∀ i, i < n → ∃ q, p i q) → ∃ l : List α, l.length = n ∧ ∀ (i : Nat) (q : α), l[i]? = some q → p i q
  | 0, _ => ⟨[], rfl, fun i q h => by simp at h⟩
  | n + 1, h => by
    obtain ⟨l, hl, hlc⟩ := list_of n (fun i hi => h i (by omega))
    obtain ⟨q, hq⟩ := h n (by omega)
    refine ⟨l ++ [q], by simp [hl], fun i q' hi => ?_⟩
    rcases Nat.lt_or_ge i l.length with hil | hil
    · rw [List.getElem?_append_left hil] at hi
      exact hlc i q' hi
    · rw [List.getElem?_append_right hil] at hi
      have : i - l.length = 0 := by
        have := (List.getElem?_eq_some_iff.1 hi).1
        simpa using this
      rw [this] at hi
      simp at hi
      subst hi
      obtain rfl : i = n := by omega
      exact hq
section
variable {H : Type} {enc : TypeId × Value → H} {W : World}
theorem bulk_pos (d : DataW H) : 1 ≤ Rows.uptoBulk d := by
  cases d with
  | lit l => cases l <;> simp [Rows.uptoBulk]
  | _ => simp [Rows.uptoBulk]
theorem bulk_length : ∀ l : List (DataW H), l.length ≤ Rows.uptoBulkAll l
  | [] => by simp
  | d :: r => by
    have h1 := bulk_pos d
    have h2 := bulk_length r
    simp only [Rows.uptoBulkAll, List.length_cons]
    omega
theorem bulk_mem {d : DataW H} : ∀ {l : List (DataW H)}, d ∈ l → Rows.uptoBulk d ≤ Rows.uptoBulkAll l
  | x :: r, h => by
    simp only [Rows.uptoBulkAll]
    rcases List.mem_cons.1 h with rfl | h
    · omega
    · have := bulk_mem h; omega
theorem bulk_elems (e s : List (DataW H)) : Rows.uptoBulkAll e ≤ Rows.uptoBulk (.slice e s) := by
  simp only [Rows.uptoBulk]; omega

set_option maxRecDepth 100000 in
/-- One ask. -/
theorem open_ask {fuel : Nat} {cs : List Value} {x : DataW H × List MemPlace} (h : DataW.trod enc Try.prog W 0 (fun _ => true) true fuel 70 cs = some x) :
    ∃ a : Ask, cs = [.int .i64 a.kind, .string a.key, .int .i64 a.value] := by
  obtain ⟨xs, n, rfl, _, hlen, hxl, hf⟩ := DataW.trod_struct Try.underlying70 h
  have h0 : DataW.trod enc Try.prog W 0 (fun _ => true) true n 3 ((cs.drop 0).take (Try.prog.cellsOf 3)) = xs[0]? := hf 0 _ rfl
  have h1 : DataW.trod enc Try.prog W 0 (fun _ => true) true n 9 ((cs.drop 1).take (Try.prog.cellsOf 9)) = xs[1]? := hf 1 _ rfl
  have h2 : DataW.trod enc Try.prog W 0 (fun _ => true) true n 2 ((cs.drop 2).take (Try.prog.cellsOf 2)) = xs[2]? := hf 2 _ rfl
  have hc : Try.prog.cellsOf 70 = 3 := by kernel_rfl
  rw [hc] at hlen
  have hxl3 : xs.length = 3 := hxl
  match cs, hlen with
  | [c0, c1, c2], _ =>
    have hx0 : xs[0]? = some (xs[0]'(by omega)) := List.getElem?_eq_getElem _
    have hx1 : xs[1]? = some (xs[1]'(by omega)) := List.getElem?_eq_getElem _
    have hx2 : xs[2]? = some (xs[2]'(by omega)) := List.getElem?_eq_getElem _
    rw [hx0] at h0
    rw [hx1] at h1
    rw [hx2] at h2
    have e3 : Try.prog.cellsOf 3 = 1 := by kernel_rfl
    have e9 : Try.prog.cellsOf 9 = 1 := by kernel_rfl
    have e2 : Try.prog.cellsOf 2 = 1 := by kernel_rfl
    rw [e3] at h0
    rw [e9] at h1
    rw [e2] at h2
    obtain ⟨k, hk, _⟩ := DataW.trod_int Try.underlying3 h0
    obtain ⟨s, hs, _⟩ := DataW.trod_string Try.underlying9 h1
    obtain ⟨v, hv, _⟩ := DataW.trod_int Try.underlying2 h2
    simp at hk hs hv
    exact ⟨⟨k, s, v⟩, by rw [hk, hs, hv]⟩

set_option maxRecDepth 100000 in
/-- A row of asks. -/
theorem open_asks {fuel : Nat} {v : Value} {x : DataW H × List MemPlace} (h : DataW.trod enc Try.prog W 0 (fun _ => true) true fuel 71 [v] = some x) :
    ∃ A c, ∃ asks : List Ask, v = .slice A asks.length c ∧ asks.length ≤ c ∧ AskRow W (fun _ => True) A asks ∧ asks.length ≤ Rows.uptoBulk x.1 := by
  rcases DataW.trod_slice Try.underlying71 h with ⟨h0, rfl⟩ | ⟨a, len, cap, elems, rest, n, _, hcs, rfl, _, hl, _, hlen, hel, _⟩
  · exact ⟨none, 0, [], by simpa using h0, Nat.le_refl _, fun k a h => by simp at h, Nat.zero_le _⟩
  · have hc : Try.prog.cellsOf 70 = 3 := by kernel_rfl
    rw [hc] at hel
    have each : ∀ i, i < len → ∃ q : Ask, (W.cell? (a.add (i * 3)) = some (.int .i64 q.kind)) ∧ (W.cell? ((a.add (i * 3)).add 1) = some (.string q.key)) ∧ (W.cell? ((a.add (i * 3)).add 2) = some (.int .i64 q.value)) := by
      intro i hi
      have h1 := hel i hi
      have he : elems[i]? = some (elems[i]'(by omega)) := List.getElem?_eq_getElem _
      rw [he] at h1
      obtain ⟨cs, hc1, hc2⟩ := Option.bind_eq_some_iff.1 h1
      obtain ⟨q, rfl⟩ := open_ask hc2
      obtain ⟨_, _, hcell⟩ := World.cells?_some hc1
      exact ⟨q, by have := hcell 0 (by omega); simpa [Addr.add] using this, hcell 1 (by omega), hcell 2 (by omega)⟩
    obtain ⟨asks, hal, hac⟩ := list_of len each
    subst hal
    have hv : v = .slice (some a) asks.length cap := by simpa using hcs
    refine ⟨some a, cap, asks, hv, hl, fun k q hk => ?_, ?_⟩
    · have hpos : 0 < asks.length := by have := (List.getElem?_eq_some_iff.1 hk).1; omega
      obtain ⟨q0, hq0⟩ : ∃ q0, asks[0]? = some q0 := ⟨_, List.getElem?_eq_getElem hpos⟩
      have ha := plain_addr (hac 0 q0 hq0).1
      simp only [Nat.zero_mul, Addr.add, if_true] at ha
      obtain ⟨h1, h2, h3⟩ := hac k q hk
      rw [ha, plain_add] at h1 h2 h3
      rw [plain_add] at h2 h3
      exact ⟨a.block, a.off, by rw [← ha], trivial, lt_of_cell h1, h1, h2, h3⟩
    · refine Nat.le_trans ?_ (bulk_elems _ _)
      refine Nat.le_trans ?_ (bulk_length _)
      rw [List.length_map, hlen]
      exact Nat.le_refl _

set_option maxRecDepth 100000 in
/-- The rows of asks. -/
theorem open_work {v : Value} {d : DataW H} {ps : List MemPlace} (hv : ∃ A n c, v = .slice A n c) (h : DataW.Trod enc Try.prog W 0 (fun _ => true) true 27 v d ps) :
    ∃ A c, ∃ work : List (List Ask), v = .slice A work.length c ∧ work.length ≤ c ∧ WorkAt W A work ∧ work.length ≤ Rows.uptoBulk d ∧ ∀ l ∈ work, l.length ≤ Rows.uptoBulk d := by
  obtain ⟨fuel, hd⟩ := h
  obtain ⟨A0, n0, c0, rfl⟩ := hv
  simp only [Value.cells] at hd
  rcases Go.Deep.open_slice1 Try.underlying27 (by kernel_rfl) hd with ⟨h0, hx⟩ | ⟨a, len, cap, m, n, V, D, Pl, hcs, _, hl, _, hm, hx, hel⟩
  · simp at h0
    obtain ⟨rfl, rfl, rfl⟩ := h0
    exact ⟨none, 0, [], rfl, Nat.le_refl _, fun i l h => by simp at h, Nat.zero_le _, fun l h => by cases h⟩
  · simp only [if_true] at hm
    simp at hcs
    obtain ⟨rfl, rfl, rfl⟩ := hcs
    simp only [Prod.mk.injEq] at hx
    have each : ∀ i, i < n0 → ∃ asks : List Ask, (∃ A c, V i = .slice A asks.length c ∧ asks.length ≤ c ∧ AskRow W (fun _ => True) A asks) ∧ asks.length ≤ Rows.uptoBulk (D i) := fun i hi => by
      obtain ⟨A, c, asks, e1, e2, e3, e4⟩ := open_asks (hel i (by omega)).2
      exact ⟨asks, ⟨A, c, e1, e2, e3⟩, e4⟩
    obtain ⟨work, hwl, hwk⟩ := list_of n0 each
    subst hwl
    have hbd : Rows.uptoBulkAll ((List.range work.length).map D) ≤ Rows.uptoBulk d := by rw [hx.1]; exact bulk_elems _ _
    refine ⟨some a, c0, work, rfl, hl, fun i l hi => ?_, ?_, fun l hl' => ?_⟩
    · have hil : i < work.length := (List.getElem?_eq_some_iff.1 hi).1
      obtain ⟨⟨A, c, e1, e2, e3⟩, _⟩ := hwk i l hi
      have h0 := (hel 0 (by omega)).1
      have ha := plain_addr h0
      simp only [Addr.add, if_true] at ha
      have h1 := (hel i (by omega)).1
      rw [ha, plain_add, e1] at h1
      exact ⟨a.block, a.off, by rw [← ha], A, c, h1, e2, e3⟩
    · refine Nat.le_trans ?_ hbd
      refine Nat.le_trans ?_ (bulk_length _)
      simp
    · obtain ⟨i, hi⟩ := List.mem_iff_getElem?.1 hl'
      have hil : i < work.length := (List.getElem?_eq_some_iff.1 hi).1
      exact Nat.le_trans (hwk i l hi).2 (Nat.le_trans (bulk_mem (List.mem_map.2 ⟨i, List.mem_range.2 hil, rfl⟩)) hbd)

set_option maxRecDepth 100000 in
/-- The picks. -/
theorem open_picks {v : Value} {d : DataW H} {ps : List MemPlace} (hv : ∃ A n c, v = .slice A n c) (h : DataW.Trod enc Try.prog W 0 (fun _ => true) true 28 v d ps) :
    ∃ A c, ∃ pk : List Nat, v = .slice A pk.length c ∧ PicksAt W A pk ∧ pk.length ≤ Rows.uptoBulk d := by
  obtain ⟨fuel, hd⟩ := h
  obtain ⟨A0, n0, c0, rfl⟩ := hv
  simp only [Value.cells] at hd
  rcases Go.Deep.open_slice1 Try.underlying28 (by kernel_rfl) hd with ⟨h0, hx⟩ | ⟨a, len, cap, m, n, V, D, Pl, hcs, _, hl, _, hm, hx, hel⟩
  · simp at h0
    obtain ⟨rfl, rfl, rfl⟩ := h0
    exact ⟨none, 0, [], rfl, fun j p h => by simp at h, Nat.zero_le _⟩
  · simp only [if_true] at hm
    simp at hcs
    obtain ⟨rfl, rfl, rfl⟩ := hcs
    simp only [Prod.mk.injEq] at hx
    have each : ∀ i, i < n0 → ∃ p : Nat, V i = .int .u8 (p : Int) ∧ p < 256 := fun i hi => by
      obtain ⟨k, hk, _, hw⟩ := DataW.trod_int Try.underlying5 (hel i (by omega)).2
      have hr : 0 ≤ k ∧ k ≤ 255 := by simpa [Lit.wf, IntKind.min, IntKind.max, IntKind.signed, IntKind.bits] using hw
      refine ⟨k.toNat, ?_, by omega⟩
      have : V i = .int .u8 k := by simpa using hk
      rw [this, Int.toNat_of_nonneg hr.1]
    obtain ⟨p, hp⟩ : ∃ p : Nat → Nat, ∀ i, i < n0 → V i = .int .u8 (p i : Int) ∧ p i < 256 :=
      ⟨fun i => if h : i < n0 then Classical.choose (each i h) else 0, fun i hi => by simp only [hi, dite_true]; exact Classical.choose_spec (each i hi)⟩
    refine ⟨some a, c0, (List.range n0).map p, by simp, fun j q hj => ?_, ?_⟩
    · have hjl : j < n0 := by
        have := (List.getElem?_eq_some_iff.1 hj).1
        simpa using this
      have h0 := (hel 0 (by omega)).1
      have ha := plain_addr h0
      simp only [Addr.add, if_true] at ha
      have h1 := (hel j (by omega)).1
      obtain ⟨e1, e2⟩ := hp j hjl
      rw [ha, plain_add, e1] at h1
      have hq : q = p j := by
        rw [List.getElem?_map, List.getElem?_range hjl] at hj
        simpa using hj.symm
      rw [hq]
      exact ⟨a.block, a.off, by rw [← ha], h1, e2⟩
    · have hbd : Rows.uptoBulkAll ((List.range n0).map D) ≤ Rows.uptoBulk d := by rw [hx.1]; exact bulk_elems _ _
      refine Nat.le_trans ?_ hbd
      refine Nat.le_trans ?_ (bulk_length _)
      simp
end
end Go.Proofs.Ytimkoepaeebleaa
