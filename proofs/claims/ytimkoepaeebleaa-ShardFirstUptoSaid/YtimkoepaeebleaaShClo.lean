/- slices.Clone at asks and at calls. -/
import Derived.Test.YtimkoepaeebleaaShMak
import Derived.Deep.AppendLies
namespace Go.Proofs.Ytimkoepaeebleaa
open Go.RowKit

/-- What a copy leaves: a row of its own, in new memory. -/
def ClonePost (t : TypeId) (size : Nat) (w : World) (m : Nat) (news : List Value) (e : Ending) (w' : World) : Prop :=
  ∃ g cap, e = .returned (.slice (some ⟨g, 0, none⟩) m cap) ∧ w'.ownsRow w.heap.size t size (.slice (some ⟨g, 0, none⟩) m cap) m news ∧ Below w.heap.size w w'

theorem infoAsk : (Try.prog.info? 70).map (fun i => (i.zero, i.size, i.bytes)) = some (some (.agg #[.int .i64 0, .string ByteArray.empty, .int .i64 0]), 3, 32) := by kernel_rfl
set_option maxRecDepth 100000 in
set_option maxHeartbeats 1000000 in
theorem CloneAsk (w : World) (ad : Addr) (m c : Nat) (news : List Value) (hl : news.length = m * 3) (hnews : ∀ j u, news[j]? = some u → w.cell? (ad.add j) = some u) (h1 : ∀ u ∈ news, u.oneCell' = true) (hm : 0 < m) (hm2 : m ≤ 1000000)
    (hlt : ad.block < w.heap.size) : Calls Try.prog 34 #[.slice (some ad) m c] w (ClonePost 70 3 w m news) := by
  have HNW := Lib.hid (And.intro hl (And.intro hnews h1))
  obtain ⟨i0, hi, hz0, hz1, hz2⟩ := info_parts infoAsk
  have e1 := fun (W : World) => Lib.run_eql_slice_nil (P := Try.prog) W 71 70 (some ad) m c 0 0 Try.underlying71
  clear hl hnews h1
  go_enter Try.func34, Try.ntmps34
  have HOw : Hid ((w.alloc (.cells #[] 70)).ownsRow w.heap.size 70 3 (.slice (some ⟨w.heap.size, 0, none⟩) 0 0) 0 []) := Lib.hid ⟨rfl, .inr ⟨w.heap.size, 0, #[], rfl, Nat.le_refl _, heap_alloc_new w _, Nat.le_refl _, Nat.zero_le _, rfl, rfl⟩⟩
  have hal : ∀ j, (ad.add j).block = ad.block := fun j => by unfold Addr.add; split <;> rfl
  have HRd : Hid (∀ j u, news[j]? = some u → (w.alloc (.cells #[] 70)).cell? (ad.add j) = some u) := Lib.hid fun j u hj => (Below.cell ((Below.refl w.heap.size w).alloc (Nat.le_refl _) (.cells #[] 70)) (p := ad.add j) (by rw [hal]; exact hlt)).trans (HNW.out.2.1 j u hj)
  have h6 : 0 + m ≤ maxLen := by simp only [maxLen]; omega
  have h7 : (0 + m) * 32 ≤ 140737488355328 := by omega
  have h8 : w.heap.size ≤ (w.alloc (.cells #[] 70)).heap.size := by simp
  have h9 : (Value.agg #[.int .i64 0, .string ByteArray.empty, .int .i64 0]).cells.size = 3 := by kernel_rfl
  clear hal
  go_wp2_with (at_builtin; refine wpList_append_lies _ rfl (.tmp 5) (.tmp 6) 71 rfl w.heap.size 70 i0 _ 3 32 Try.underlying71 hi hz0 hz1 hz2 h9 (by decide) (.slice (some ⟨w.heap.size, 0, none⟩) 0 0) 0 [] rfl HOw.out ad m c news rfl HNW.out.1 HRd.out HNW.out.2.2 hm h6 h7 h8 _ rfl ?_; intro g cap w' hown hgr hg hgl)
  rw [Nat.zero_add, List.nil_append] at hown
  refine bodyPost_ret (v := .slice (some ⟨g, 0, none⟩) m cap) (by simp [results, Try.results34, go_sem]) rfl ?_
  exact ⟨g, cap, rfl, hown, ((Below.refl _ _).alloc (Nat.le_refl _) _).grown hgr (by simp) (fun k hk => by simp [Value.ownBlock] at hk; omega)⟩

theorem infoCall : (Try.prog.info? 46).map (fun i => (i.zero, i.size, i.bytes)) = some (some (.agg #[.int .i64 0, .int .i64 0, .string ByteArray.empty, .int .i64 0, .int .i64 0, .int .i64 0, .int .i64 0, .int .i64 0]), 8, 72) := by kernel_rfl
set_option maxRecDepth 100000 in
set_option maxHeartbeats 1000000 in
theorem CloneCall (w : World) (ad : Addr) (m c : Nat) (news : List Value) (hl : news.length = m * 8) (hnews : ∀ j u, news[j]? = some u → w.cell? (ad.add j) = some u) (h1 : ∀ u ∈ news, u.oneCell' = true) (hm : 0 < m) (hm2 : m ≤ 1000000)
    (hlt : ad.block < w.heap.size) : Calls Try.prog 46 #[.slice (some ad) m c] w (ClonePost 46 8 w m news) := by
  have HNW := Lib.hid (And.intro hl (And.intro hnews h1))
  obtain ⟨i0, hi, hz0, hz1, hz2⟩ := info_parts infoCall
  have e1 := fun (W : World) => Lib.run_eql_slice_nil (P := Try.prog) W 44 46 (some ad) m c 0 0 Try.underlying44
  clear hl hnews h1
  go_enter Try.func46, Try.ntmps46
  have HOw : Hid ((w.alloc (.cells #[] 46)).ownsRow w.heap.size 46 8 (.slice (some ⟨w.heap.size, 0, none⟩) 0 0) 0 []) := Lib.hid ⟨rfl, .inr ⟨w.heap.size, 0, #[], rfl, Nat.le_refl _, heap_alloc_new w _, Nat.le_refl _, Nat.zero_le _, rfl, rfl⟩⟩
  have hal : ∀ j, (ad.add j).block = ad.block := fun j => by unfold Addr.add; split <;> rfl
  have HRd : Hid (∀ j u, news[j]? = some u → (w.alloc (.cells #[] 46)).cell? (ad.add j) = some u) := Lib.hid fun j u hj => (Below.cell ((Below.refl w.heap.size w).alloc (Nat.le_refl _) (.cells #[] 46)) (p := ad.add j) (by rw [hal]; exact hlt)).trans (HNW.out.2.1 j u hj)
  have h6 : 0 + m ≤ maxLen := by simp only [maxLen]; omega
  have h7 : (0 + m) * 72 ≤ 140737488355328 := by omega
  have h8 : w.heap.size ≤ (w.alloc (.cells #[] 46)).heap.size := by simp
  have h9 : (Value.agg #[.int .i64 0, .int .i64 0, .string ByteArray.empty, .int .i64 0, .int .i64 0, .int .i64 0, .int .i64 0, .int .i64 0]).cells.size = 8 := by kernel_rfl
  clear hal
  go_wp2_with (at_builtin; refine wpList_append_lies _ rfl (.tmp 5) (.tmp 6) 44 rfl w.heap.size 46 i0 _ 8 72 Try.underlying44 hi hz0 hz1 hz2 h9 (by decide) (.slice (some ⟨w.heap.size, 0, none⟩) 0 0) 0 [] rfl HOw.out ad m c news rfl HNW.out.1 HRd.out HNW.out.2.2 hm h6 h7 h8 _ rfl ?_; intro g cap w' hown hgr hg hgl)
  rw [Nat.zero_add, List.nil_append] at hown
  refine bodyPost_ret (v := .slice (some ⟨g, 0, none⟩) m cap) (by simp [results, Try.results46, go_sem]) rfl ?_
  exact ⟨g, cap, rfl, hown, ((Below.refl _ _).alloc (Nat.le_refl _) _).grown hgr (by simp) (fun k hk => by simp [Value.ownBlock] at hk; omega)⟩


theorem CloneNilAsk (w : World) : Calls Try.prog 34 #[.slice none 0 0] w fun e w' => e = .returned (.slice none 0 0) ∧ w = w' := by
  have h1 := fun (W : World) => Lib.run_eql_slice_nil (P := Try.prog) W 71 70 none 0 0 0 0 Try.underlying71
  go_enter Try.func34, Try.ntmps34
  go_wp2
  go_ret
  exact ⟨rfl, rfl⟩

theorem CloneNilCall (w : World) : Calls Try.prog 46 #[.slice none 0 0] w fun e w' => e = .returned (.slice none 0 0) ∧ w = w' := by
  have h1 := fun (W : World) => Lib.run_eql_slice_nil (P := Try.prog) W 44 46 none 0 0 0 0 Try.underlying44
  go_enter Try.func46, Try.ntmps46
  go_wp2
  go_ret
  exact ⟨rfl, rfl⟩

end Go.Proofs.Ytimkoepaeebleaa
