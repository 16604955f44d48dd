/- What a table tells: its history. -/
import Derived.Test.YtimkoepaeebleaaShGet
import Derived.Test.YtimkoepaeebleaaShEnd
import Derived.Test.YtimkoepaeebleaaShClo
namespace Go.Proofs.Ytimkoepaeebleaa
open Go.RowKit

set_option maxRecDepth 100000 in
set_option maxHeartbeats 1000000 in
theorem History_in (w : World) (S R : Nat → Prop) (T : TS) (h : TableAt w S R T) (h0 : 0 < T.past.length) (h1 : T.past.length ≤ 1000000) :
    Calls Try.prog 27 #[.pointer (some ⟨T.bt, 0, none⟩)] w (ClonePost 46 8 w T.past.length (T.past.flatMap CallR.cells)) := by
  have c7 := h.c7
  obtain ⟨c, hc⟩ : ∃ c, T.past[0]? = some c := ⟨T.past[0], List.getElem?_eq_getElem h0⟩
  obtain ⟨g, cap, cur, hv, hcap, hcm, hB, hsz, htk⟩ := past_at h.past hc
  rw [hv] at c7
  have HC := Lib.hid (CloneCall w ⟨g, 0, none⟩ T.past.length cap (T.past.flatMap CallR.cells) (flat_len CallR.cells 8 cells_len _) (fun j u hj => by
    rw [show (⟨g, 0, none⟩ : Addr).add j = ⟨g, 0 + j, none⟩ by unfold Addr.add; split <;> simp_all, hB.cell]
    have hjl : j < T.past.length * 8 := by rw [← flat_len CallR.cells 8 cells_len]; exact (List.getElem?_eq_some_iff.1 hj).1
    rw [← htk, List.getElem?_take, if_pos hjl] at hj
    simpa using hj) (fun u hu => by
      obtain ⟨c, _, hc⟩ := List.mem_flatMap.1 hu
      simp [CallR.cells] at hc
      rcases hc with rfl | rfl | rfl | rfl | rfl | rfl | rfl | rfl <;> rfl) h0 h1 hB.lt)
  clear h hc hv hcap hcm hB hsz htk
  go_enter Try.func27, Try.ntmps27
  go_wp2_with fail
  refine HC.out.mono ?_
  rintro e w' ⟨g', cap', rfl, hown, hb⟩
  go_wp2_with fail
  refine bodyPost_ret (v := .slice (some ⟨g', 0, none⟩) T.past.length cap') (by simp [results, Try.results27, go_sem]) rfl ?_
  exact ⟨g', cap', rfl, hown, hb⟩
end Go.Proofs.Ytimkoepaeebleaa
