/- slices.Equal at two rows of the same calls. -/
import Derived.Test.YtimkoepaeebleaaShTab
namespace Go.Proofs.Ytimkoepaeebleaa
open Go.RowKit

/-- A row of calls that can be read at block g. -/
def CallRow (w : World) (g : Nat) (l : List CallR) : Prop := ∀ j c, l[j]? = some c → ∀ k, k < 8 → w.cell? ⟨g, j * 8 + k, none⟩ = c.cells[k]?
set_option maxRecDepth 100000 in
set_option maxHeartbeats 1000000 in
theorem EqualCall (w : World) (g1 g2 c1 c2 : Nat) (l : List CallR) (hm : l.length ≤ 1000000) (h1 : CallRow w g1 l) (h2 : CallRow w g2 l) :
    Calls Try.prog 26 #[.slice (some ⟨g1, 0, none⟩) l.length c1, .slice (some ⟨g2, 0, none⟩) l.length c2] w fun e w' => e = .returned (.bool true) ∧ ∃ n, w' = w.drewN n := by
  have H1 := Lib.hid h1
  have H2 := Lib.hid h2
  obtain ⟨n, hn⟩ : ∃ n, n = l.length := ⟨_, rfl⟩
  rw [← hn]
  rw [← hn] at hm
  have HN := Lib.hid hn
  clear h1 h2 hn
  go_enter Try.func26, Try.ntmps26
  go_wp2_with fail
  go_loopw [5, 13] (fun _ s wr => ∃ (j m : Nat), s = .int .i64 j ∧ j ≤ n ∧ wr = w.drewN m) (fun _ s _ => n - (intOf s).toNat)
  case atStart => exact ⟨0, 0, rfl, by omega, rfl⟩
  case round =>
    obtain ⟨j, m, rfl, hjn, rfl⟩ := hrel
    by_cases hlt : j < n
    · have d1 : decide ((j : Int) < (n : Int)) = true := by simp; omega
      have b3 : (0 : Int) ≤ (j : Int) := by omega
      have b4 : (j : Int) < (n : Int) := by omega
      obtain ⟨c, hc⟩ : ∃ c, l[j]? = some c := ⟨l[j]'(by rw [← HN.out]; exact hlt), List.getElem?_eq_getElem _⟩
      have x0 : w.cell? ⟨g1, j * 8, none⟩ = some (.int .i64 c.worker) := H1.out j c hc 0 (by omega)
      have x1 : w.cell? ⟨g1, j * 8 + 1, none⟩ = some (.int .i64 c.kind) := H1.out j c hc 1 (by omega)
      have x2 : w.cell? ⟨g1, j * 8 + 2, none⟩ = some (.string c.key) := H1.out j c hc 2 (by omega)
      have x3 : w.cell? ⟨g1, j * 8 + 3, none⟩ = some (.int .i64 c.value) := H1.out j c hc 3 (by omega)
      have x4 : w.cell? ⟨g1, j * 8 + 4, none⟩ = some (.int .i64 c.from_) := H1.out j c hc 4 (by omega)
      have x5 : w.cell? ⟨g1, j * 8 + 5, none⟩ = some (.int .i64 c.to) := H1.out j c hc 5 (by omega)
      have x6 : w.cell? ⟨g1, j * 8 + 6, none⟩ = some (.int .i64 c.answer) := H1.out j c hc 6 (by omega)
      have x7 : w.cell? ⟨g1, j * 8 + 7, none⟩ = some (.int .i64 c.err) := H1.out j c hc 7 (by omega)
      have y0 : w.cell? ⟨g2, j * 8, none⟩ = some (.int .i64 c.worker) := H2.out j c hc 0 (by omega)
      have y1 : w.cell? ⟨g2, j * 8 + 1, none⟩ = some (.int .i64 c.kind) := H2.out j c hc 1 (by omega)
      have y2 : w.cell? ⟨g2, j * 8 + 2, none⟩ = some (.string c.key) := H2.out j c hc 2 (by omega)
      have y3 : w.cell? ⟨g2, j * 8 + 3, none⟩ = some (.int .i64 c.value) := H2.out j c hc 3 (by omega)
      have y4 : w.cell? ⟨g2, j * 8 + 4, none⟩ = some (.int .i64 c.from_) := H2.out j c hc 4 (by omega)
      have y5 : w.cell? ⟨g2, j * 8 + 5, none⟩ = some (.int .i64 c.to) := H2.out j c hc 5 (by omega)
      have y6 : w.cell? ⟨g2, j * 8 + 6, none⟩ = some (.int .i64 c.answer) := H2.out j c hc 6 (by omega)
      have y7 : w.cell? ⟨g2, j * 8 + 7, none⟩ = some (.int .i64 c.err) := H2.out j c hc 7 (by omega)
      clear hc
      go_wp2_with fail
      go_quiet (fail)
      go_wp2_with fail
      go_roundw
      case rel => exact ⟨j + 1, m + nq, by simp, by omega, by simp [World.drewN, Nat.add_assoc]⟩
      case measure => simp [intOf]; omega
    · have d1 : decide ((j : Int) < (n : Int)) = false := by simp; omega
      go_wp2_with fail
      go_ret
      exact ⟨rfl, m, rfl⟩
end Go.Proofs.Ytimkoepaeebleaa
