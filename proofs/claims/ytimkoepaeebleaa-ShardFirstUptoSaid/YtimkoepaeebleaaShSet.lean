/- A shard.Table of which one part has turned. -/
import Derived.Test.YtimkoepaeebleaaShEnd
namespace Go.Proofs.Ytimkoepaeebleaa
open Go.RowKit

section
variable {w w' : World} {S R : Nat → Prop} {T : TS}
theorem TableAt.upd (h : TableAt w S R T) (hC : Chg S w w') (own : List Int) (mst : Int) (hands : List (Nat × Hand)) (values : List (ByteArray × Int)) (told : List (ByteArray × Bool)) (steps : Nat)
    (tab' : Blk w' T.bt 66 #[.pointer (some ⟨T.lk, 0, none⟩), .int .i64 T.nsh, .slice (some ⟨T.bw, 0, none⟩) T.work.length T.wcap, .slice (some ⟨T.ba, 0, none⟩) T.at_.length T.at_.length, .map (some T.hb), .map (some T.vb), .map (some T.tb), T.pv, .int .i64 steps])
    (mem' : MemAt w' T.lk T.ck T.nsh T.mcap mst own) (hands' : MapAt w' T.hb encW evH hands) (hand' : ∀ p ∈ hands, Blk w' p.2.blk 107 #[.int .i64 p.2.at_, .int .i64 p.2.next, .bool p.2.found, .int .i64 p.2.v])
    (values' : MapAt w' T.vb encK evI values) (told' : MapAt w' T.tb encK evB told) (at' : w'.heap[T.ba]? = w.heap[T.ba]?) (past' : ∀ b, T.pv.ownBlock = some b → w'.heap[b]? = w.heap[b]?)
    (s_hand' : ∀ p ∈ hands, S p.2.blk) (ne4' : (hands.map (fun p => p.2.blk)).Nodup) : TableAt w' S R { T with own := own, mst := mst, hands := hands, values := values, told := told, steps := steps } where
  tab := tab'
  mem := mem'
  wrk := h.wrk_keep (h.kR hC fun _ _ h => h) hC.size
  at_ := at'.trans h.at_
  hands := hands'
  hand := hand'
  values := values'
  told := told'
  past := own_keep h.past past'
  s_bt := h.s_bt
  s_lk := h.s_lk
  s_ck := h.s_ck
  r_bw := h.r_bw
  s_ba := h.s_ba
  s_hb := h.s_hb
  s_vb := h.s_vb
  s_tb := h.s_tb
  s_pv := h.s_pv
  s_hand := s_hand'
  lt := fun b hb => Nat.lt_of_lt_of_le (h.lt b hb) hC.size
  ltR := fun b hb => Nat.lt_of_lt_of_le (h.ltR b hb) hC.size
  dis := h.dis
  ne1 := h.ne1
  ne2 := h.ne2
  ne3 := h.ne3
  ne4 := ne4'
  len_at := h.len_at
  len_w := h.len_w
  len_sh := h.len_sh
  len_a := h.len_a
  len_k := h.len_k

/-- What only touches one block b. -/
theorem TableAt.far {b : Nat} (hC : Chg (fun g => g = b) w w') {g : Nat} (hg : g < w.heap.size) (hn : g ≠ b) : w'.heap[g]? = w.heap[g]? := hC.block g hg hn
theorem past_ne (h : TableAt w S R T) {b : Nat} {t : TypeId} {cs : Array Value} (hB : Blk w b t cs) (ht : t ≠ 46) : ∀ g, T.pv.ownBlock = some g → g ≠ b := fun g hg e => by
  obtain ⟨cur, hc⟩ := own_type h.past g hg
  exact hc.ne_ hB (Ne.symm ht) e
theorem past_ne_map {α β : Type} [DecidableEq α] {enc : α → Value} {ev : β → Value} {M : List (α × β)} (h : TableAt w S R T) {b : Nat} (hB : MapAt w b enc ev M) : ∀ g, T.pv.ownBlock = some g → g ≠ b := fun g hg e => by
  obtain ⟨cur, hc⟩ := own_type h.past g hg
  exact blk_ne_map hc hB e
theorem mem_far (h : MemAt w T.lk T.ck T.nsh T.mcap T.mst T.own) {b : Nat} (hC : Chg (fun g => g = b) w w') (h1 : T.lk ≠ b) (h2 : T.ck ≠ b) : MemAt w' T.lk T.ck T.nsh T.mcap T.mst T.own := by
  obtain ⟨arr, hck, _⟩ := h.ckb
  exact h.keep (hC.block _ h.lkb.lt h1) (hC.block _ hck.lt h2)

/-- The steps are one more. -/
theorem TableAt.set_steps (h : TableAt w S R T) (hC : Chg (fun g => g = T.bt) w w') (steps : Nat)
    (tab' : Blk w' T.bt 66 #[.pointer (some ⟨T.lk, 0, none⟩), .int .i64 T.nsh, .slice (some ⟨T.bw, 0, none⟩) T.work.length T.wcap, .slice (some ⟨T.ba, 0, none⟩) T.at_.length T.at_.length, .map (some T.hb), .map (some T.vb), .map (some T.tb), T.pv, .int .i64 steps]) :
    TableAt w' S R { T with steps := steps } := by
  obtain ⟨arr, hck, _⟩ := h.mem.ckb
  exact h.upd (hC.mono fun k _ hk => hk ▸ h.s_bt) T.own T.mst T.hands T.values T.told steps tab'
    (mem_far h.mem hC (h.mem.lkb.ne_ h.tab (by decide)) (hck.ne_ h.tab (by decide))) (h.hands.keep (hC.block _ h.hands.lt (Ne.symm (blk_ne_map h.tab h.hands)))) (fun p hp => bk_chg hC ((h.hand p hp).ne_ h.tab (by decide)) (h.hand p hp))
    (h.values.keep (hC.block _ h.values.lt (Ne.symm (blk_ne_map h.tab h.values)))) (h.told.keep (hC.block _ h.told.lt (Ne.symm (blk_ne_map h.tab h.told)))) (hC.block _ h.at_.lt (h.at_.ne_ h.tab (by decide)))
    (fun b hb => hC.block b (own_lt h.past b hb) (past_ne h h.tab (by decide) b hb)) h.s_hand h.ne4

/-- The memory of locks has turned. -/
theorem TableAt.set_mem (h : TableAt w S R T) (hC : Chg (fun g => g = T.lk ∨ g = T.ck) w w') (mst : Int) (own : List Int) (mem' : MemAt w' T.lk T.ck T.nsh T.mcap mst own) : TableAt w' S R { T with own := own, mst := mst } := by
  obtain ⟨arr, hck, _⟩ := h.mem.ckb
  have hl := h.mem.lkb
  have km : ∀ {α β : Type} [DecidableEq α] {b : Nat} {enc : α → Value} {ev : β → Value} {M : List (α × β)}, MapAt w b enc ev M → MapAt w' b enc ev M := fun hm => hm.keep (hC.block _ hm.lt (by rintro (e | e); exact blk_ne_map hl hm e.symm; exact blk_ne_map hck hm e.symm))
  have kb : ∀ {b t cs}, Blk w b t cs → t ≠ 112 → t ≠ 74 → w'.heap[b]? = w.heap[b]? := fun hB h1 h2 => hC.block _ hB.lt (by rintro (e | e); exact hB.ne_ hl h1 e; exact hB.ne_ hck h2 e)
  exact h.upd (hC.mono fun k _ hk => by rcases hk with rfl | rfl; exact h.s_lk; exact h.s_ck) own mst T.hands T.values T.told T.steps ((kb h.tab (by decide) (by decide)).trans h.tab)
    mem' (km h.hands) (fun p hp => (kb (h.hand p hp) (by decide) (by decide)).trans (h.hand p hp)) (km h.values) (km h.told) (kb h.at_ (by decide) (by decide))
    (fun b hb => hC.block b (own_lt h.past b hb) (by rintro (e | e); exact past_ne h hl (by decide) b hb e; exact past_ne h hck (by decide) b hb e)) h.s_hand h.ne4

/-- The values have turned. -/
theorem TableAt.set_values (h : TableAt w S R T) (hC : Chg (fun g => g = T.vb) w w') (values : List (ByteArray × Int)) (values' : MapAt w' T.vb encK evI values) : TableAt w' S R { T with values := values } := by
  obtain ⟨arr, hck, _⟩ := h.mem.ckb
  have kb : ∀ {b t cs}, Blk w b t cs → w'.heap[b]? = w.heap[b]? := fun hB => hC.block _ hB.lt (blk_ne_map hB h.values)
  exact h.upd (hC.mono fun k _ hk => hk ▸ h.s_vb) T.own T.mst T.hands values T.told T.steps ((kb h.tab).trans h.tab) (mem_far h.mem hC (blk_ne_map h.mem.lkb h.values) (blk_ne_map hck h.values))
    (h.hands.keep (hC.block _ h.hands.lt h.ne1)) (fun p hp => (kb (h.hand p hp)).trans (h.hand p hp)) values' (h.told.keep (hC.block _ h.told.lt (Ne.symm h.ne3))) (kb h.at_)
    (fun b hb => hC.block b (own_lt h.past b hb) (past_ne_map h h.values b hb)) h.s_hand h.ne4
/-- What is told has turned. -/
theorem TableAt.set_told (h : TableAt w S R T) (hC : Chg (fun g => g = T.tb) w w') (told : List (ByteArray × Bool)) (told' : MapAt w' T.tb encK evB told) : TableAt w' S R { T with told := told } := by
  obtain ⟨arr, hck, _⟩ := h.mem.ckb
  have kb : ∀ {b t cs}, Blk w b t cs → w'.heap[b]? = w.heap[b]? := fun hB => hC.block _ hB.lt (blk_ne_map hB h.told)
  exact h.upd (hC.mono fun k _ hk => hk ▸ h.s_tb) T.own T.mst T.hands T.values told T.steps ((kb h.tab).trans h.tab) (mem_far h.mem hC (blk_ne_map h.mem.lkb h.told) (blk_ne_map hck h.told))
    (h.hands.keep (hC.block _ h.hands.lt h.ne2)) (fun p hp => (kb (h.hand p hp)).trans (h.hand p hp)) (h.values.keep (hC.block _ h.values.lt h.ne3)) told' (kb h.at_)
    (fun b hb => hC.block b (own_lt h.past b hb) (past_ne_map h h.told b hb)) h.s_hand h.ne4

theorem mput_same {i : Nat} {x x' : Hand} {M : List (Nat × Hand)} (hx : mget M i = some x) (hb : x'.blk = x.blk) (hA : Apart M) : (mput M i x').map (fun p => (encW p.1, evH p.2)) = M.map (fun p => (encW p.1, evH p.2)) := by
  rw [mput, if_pos (by rw [hx]; rfl), List.map_map]
  refine List.map_congr_left fun p hp => ?_
  by_cases h : p.1 = i
  · have hm := mget_some_mem hx
    have : p = (i, x) := by
      by_cases e : p = (i, x)
      · exact e
      · obtain ⟨a, ha, ea⟩ := List.mem_iff_getElem.1 hp
        obtain ⟨b, hb', eb⟩ := List.mem_iff_getElem.1 hm
        have hne : a ≠ b := fun e' => e (by subst e'; rw [← ea, ← eb])
        have hP := List.pairwise_iff_getElem.1 hA
        rcases Nat.lt_or_gt_of_ne hne with hl | hl
        · exact absurd (by rw [ea, eb]; exact h) (hP a b ha hb' hl)
        · exact absurd (by rw [ea, eb]; exact h.symm) (hP b a hb' ha hl)
    subst this
    simp [evH, hb]
  · simp [h]
theorem mem_mput {i : Nat} {x' : Hand} {M : List (Nat × Hand)} {p : Nat × Hand} (h : p ∈ mput M i x') : p = (i, x') ∨ (p ∈ M ∧ p.1 ≠ i) ∨ (p ∈ M ∧ mget M i = none) := by
  unfold mput at h
  split at h
  · obtain ⟨q, hq, rfl⟩ := List.mem_map.1 h
    by_cases e : q.1 = i
    · simp [e]
    · simp [e, hq]
  · rename_i hn
    rcases List.mem_append.1 h with h | h
    · exact .inr (.inr ⟨h, by simpa using hn⟩)
    · exact .inl (List.mem_singleton.1 h)
/-- What a worker has in hand has turned. -/
theorem TableAt.set_hand (h : TableAt w S R T) {i : Nat} {x x' : Hand} (hx : mget T.hands i = some x) (hb : x'.blk = x.blk) (hC : Chg (fun g => g = x.blk) w w')
    (hand' : Blk w' x.blk 107 #[.int .i64 x'.at_, .int .i64 x'.next, .bool x'.found, .int .i64 x'.v]) : TableAt w' S R { T with hands := mput T.hands i x' } := by
  obtain ⟨arr, hck, _⟩ := h.mem.ckb
  have hX := h.hand_cell hx
  have hm := mget_some_mem hx
  have kb : ∀ {b t cs}, Blk w b t cs → t ≠ 107 → w'.heap[b]? = w.heap[b]? := fun hB ht => hC.block _ hB.lt (hB.ne_ hX ht)
  have km : ∀ {α β : Type} [DecidableEq α] {b : Nat} {enc : α → Value} {ev : β → Value} {M : List (α × β)}, MapAt w b enc ev M → MapAt w' b enc ev M := fun hm => hm.keep (hC.block _ hm.lt (Ne.symm (blk_ne_map hX hm)))
  have hblks : (mput T.hands i x').map (fun p => p.2.blk) = T.hands.map (fun p => p.2.blk) := by
    have := congrArg (List.map (fun q : Value × Value => match q.2 with | .pointer (some a) => a.block | _ => 0)) (mput_same hx hb h.hands.apart)
    simpa [evH, Function.comp_def] using this
  have other : ∀ p ∈ T.hands, p.1 ≠ i → p.2.blk ≠ x.blk := fun p hp hpi e => by
    obtain ⟨a, ha, ea⟩ := List.mem_iff_getElem.1 hp
    obtain ⟨b, hb', eb⟩ := List.mem_iff_getElem.1 hm
    have hne : a ≠ b := fun e' => hpi (by subst e'; rw [← ea, eb])
    have hP := List.pairwise_iff_getElem.1 h.ne4
    have h1 : (T.hands.map (fun p => p.2.blk))[a]'(by simpa using ha) = p.2.blk := by simp [ea]
    have h2 : (T.hands.map (fun p => p.2.blk))[b]'(by simpa using hb') = x.blk := by simp [eb]
    rcases Nat.lt_or_gt_of_ne hne with hl | hl
    · exact hP a b (by simpa using ha) (by simpa using hb') hl (by rw [h1, h2]; exact e)
    · exact hP b a (by simpa using hb') (by simpa using ha) hl (by rw [h1, h2]; exact e.symm)
  refine h.upd (hC.mono fun k _ hk => hk ▸ h.s_hand _ hm) T.own T.mst (mput T.hands i x') T.values T.told T.steps ((kb h.tab (by decide)).trans h.tab) (mem_far h.mem hC (h.mem.lkb.ne_ hX (by decide)) (hck.ne_ hX (by decide)))
    ?_ ?_ (km h.values) (km h.told) (kb h.at_ (by decide)) (fun b hb => hC.block b (own_lt h.past b hb) (past_ne h hX (by decide) b hb)) ?_ (by rw [hblks]; exact h.ne4)
  · obtain ⟨es, cl, e1, e2, e3, e4⟩ := km h.hands
    exact ⟨es, cl, e1, e2.trans (mput_same hx hb h.hands.apart).symm, e3.put _ _, e4⟩
  · intro p hp
    rcases mem_mput hp with rfl | ⟨hp', hpi⟩ | ⟨_, hn⟩
    · show Blk w' x'.blk _ _
      rw [hb]; exact hand'
    · exact bk_chg hC (other p hp' hpi) (h.hand p hp')
    · rw [hx] at hn; cases hn
  · intro p hp
    rcases mem_mput hp with rfl | ⟨hp', _⟩ | ⟨hp', _⟩
    · show S x'.blk
      rw [hb]; exact h.s_hand _ hm
    · exact h.s_hand p hp'
    · exact h.s_hand p hp'
end
end Go.Proofs.Ytimkoepaeebleaa
