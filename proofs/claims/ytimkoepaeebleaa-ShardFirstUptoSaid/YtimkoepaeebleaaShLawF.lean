/- ShardFirst: a name's value is that of the define that is OK, and no two are; where nobody can go on, each worker that is not done awaits a name that has no value. For every number of shards, all calls and all picks of bulk at most 1048576. -/
import Derived.Test.YtimkoepaeebleaaShFst
import Derived.Test.YtimkoepaeebleaaShTold
import Derived.Test.YtimkoepaeebleaaLaw
namespace Go.Proofs.Ytimkoepaeebleaa
open Go.ChangeShapes Go.WideShapes Go.ChangeAt Go.RowKit

def evC (c : CallR) : Value := .agg c.cells.toArray
theorem zero_call (w : World) : (zeroValue 46).run Try.prog w = .ok (.agg #[.int .i64 0, .int .i64 0, .string ByteArray.empty, .int .i64 0, .int .i64 0, .int .i64 0, .int .i64 0, .int .i64 0]) w := by kernel_rfl

theorem mapAt_len {α β : Type} [DecidableEq α] {P : Program} {w : World} {b : Nat} {t k e : TypeId} {enc : α → Value} {ev : β → Value} {M : List (α × β)} (h : MapAt w b enc ev M) (ht : P.underlying t = some (.map k e)) (ty : TypeId) : (Builtin.len_ #[t] ty #[.map (some b)]).run P w = .ok (.int .i64 M.length) w := by
  obtain ⟨es, clock, hb, hes, _⟩ := h
  have hlen : es.size = M.length := by
    have := congrArg List.length hes
    simpa using this
  simp [Builtin.len_, run_underlying ht, MapKept.run_getObj_map hb, Result.andThen, hlen]
  rfl
set_option maxRecDepth 100000 in
set_option maxHeartbeats 4000000 in
theorem first_walk (shards : Int) (A P : Option Addr) (cW cP : Nat) (work : List (List Ask)) (pk : List Nat) (w : World) (hW : WorkAt w A work) (hc : work.length ≤ cW) (hl : ∀ l ∈ work, l.length ≤ 1048576) (hwl : work.length ≤ 1048576)
    (hpk : PicksAt w P pk) (hnp : pk.length ≤ 1048576) :
    Calls Try.prog 5 #[.int .i64 shards, .slice A work.length cW, .slice P pk.length cP] w fun e w' => e = .returned (.bool true) ∧ Below w.heap.size w w' := by
  have HW := Lib.hid (And.intro hW (And.intro hl hpk))
  have HB := Lib.hid begun_any
  have hmm := @run_makeMap Try.prog
  clear hW hl hpk
  go_enter Try.func5, Try.ntmps5
  go_wp2_with fail
  refine (HB.out _).mono ?_
  rintro e w1 ⟨rfl, hb1⟩
  have HF := Lib.hid (few_any w1 A P cW cP pk.length work (HW.out.1.below hb1) hc HW.out.2.1 hwl hnp)
  have hz1 := hb1.size
  cases hf : fewB work pk.length with
  | false =>
    rw [hf] at HF
    clear hf
    go_wp2_with fail
    refine HF.out.mono ?_
    rintro e w2 ⟨rfl, hb2⟩
    have hz2 := hb2.size
    go_wp2_with fail
    refine (HB.out _).mono ?_
    rintro e w3 ⟨rfl, hb3⟩
    have hz3 := hb3.size
    go_wp2_with fail
    go_ret
    exact ⟨rfl, (by (repeat (first | with_reducible exact Below.refl _ _ | (with_reducible refine bl_drew ?_) | (with_reducible refine bl_drewN ?_) | (with_reducible refine bl_alloc ?_ ?_; (focus (first | omega | (simp; done) | (simp; omega)))) | (with_reducible refine bl_set ?_ ?_; (focus (first | omega | (simp; done) | (simp; omega)))) | (with_reducible refine bl_trans ?_ (by assumption) ?_; (focus (first | omega | (simp; done) | (simp; omega)))))))⟩
  | true =>
    rw [hf] at HF
    have HFe := Lib.hid hf
    clear hf
    go_wp2_with fail
    refine HF.out.mono ?_
    rintro e w2 ⟨rfl, hb2⟩
    have hz2 := hb2.size
    have hbw2 : Below w.heap.size w w2 := (by (repeat (first | with_reducible exact Below.refl _ _ | (with_reducible refine bl_drew ?_) | (with_reducible refine bl_drewN ?_) | (with_reducible refine bl_alloc ?_ ?_; (focus (first | omega | (simp; done) | (simp; omega)))) | (with_reducible refine bl_set ?_ ?_; (focus (first | omega | (simp; done) | (simp; omega)))) | (with_reducible refine bl_trans ?_ (by assumption) ?_; (focus (first | omega | (simp; done) | (simp; omega)))))))
    have HN := Lib.hid (New_law w2 shards A cW pk.length work (HW.out.1.below hbw2) HW.out.2.1 HFe.out)
    clear HF hb1 hb2
    go_wp2_with fail
    refine HN.out.mono ?_
    rintro e w3 (⟨hne, rfl, hb3⟩ | ⟨he0, ⟨bt, rfl, hL, hb3⟩, q1, q2, q3, q4, q5, q6, q7⟩)
    · have d1 : (newErr shards work != 0) = true := by simpa using hne
      clear hne HN
      have hz3 := hb3.size
      go_wp2_with fail
      go_ret
      exact ⟨rfl, (by (repeat (first | with_reducible exact Below.refl _ _ | (with_reducible refine bl_drew ?_) | (with_reducible refine bl_drewN ?_) | (with_reducible refine bl_alloc ?_ ?_; (focus (first | omega | (simp; done) | (simp; omega)))) | (with_reducible refine bl_set ?_ ?_; (focus (first | omega | (simp; done) | (simp; omega)))) | (with_reducible refine bl_trans ?_ (by assumption) ?_; (focus (first | omega | (simp; done) | (simp; omega)))))))⟩
    · have hz3 := hb3.size
      have hbw3 : Below w.heap.size w w3 := (by (repeat (first | with_reducible exact Below.refl _ _ | (with_reducible refine bl_drew ?_) | (with_reducible refine bl_drewN ?_) | (with_reducible refine bl_alloc ?_ ?_; (focus (first | omega | (simp; done) | (simp; omega)))) | (with_reducible refine bl_set ?_ ?_; (focus (first | omega | (simp; done) | (simp; omega)))) | (with_reducible refine bl_trans ?_ (by assumption) ?_; (focus (first | omega | (simp; done) | (simp; omega)))))))
      have hJ : FJ w bt (VS.init shards.toNat work) w3 := ⟨⟨_, hL, fun b hb => by have := hb.1; omega⟩, hbw3, VS.init_inv3 _ _, ⟨fun l hl a ha => by have := q6 l hl a ha; omega, fun p hp => by cases hp⟩⟩
      have HR := Lib.hid (run_fst w w3 bt _ P pk cP HW.out.2.2 hnp hJ (VS.init_pot _ _) q5)
      have HQ := Lib.hid (And.intro q3 (And.intro q4 (And.intro q5 q7)))
      clear hL hJ q1 q2 q3 q4 q5 q6 q7 he0 HN hb3
      go_wp2_with fail
      refine HR.out.mono ?_
      rintro e w4 ⟨V, rfl, hJ, hq, hp, hwk⟩
      have HV := Lib.hid (And.intro hJ (And.intro hq (And.intro hp hwk)))
      clear hJ hq hp hwk HR
      go_wp2_with fail
      obtain ⟨W4, hW4⟩ : ∃ W4 : World, (w4.alloc (.map #[] 0)).alloc (.map #[] 0) = W4 := ⟨_, rfl⟩
      have hz4 : W4.heap.size = w4.heap.size + 2 := by rw [← hW4]; simp
      have hMp0 : MapAt W4 w4.heap.size encK evI [] := by
        rw [← hW4]
        exact (MapAt.made w4 encK evI).keep (Below.heap_alloc _ _ _ (by simp))
      have hMo0 : MapAt W4 (w4.heap.size + 1) encW evC [] := by
        have := MapAt.made (w4.alloc (.map #[] 0)) encW evC
        rw [World.size_alloc] at this
        rw [← hW4]; exact this
      have hb4 : Below w4.heap.size w4 W4 := by rw [← hW4]; (repeat (first | with_reducible exact Below.refl _ _ | (with_reducible refine bl_drew ?_) | (with_reducible refine bl_drewN ?_) | (with_reducible refine bl_alloc ?_ ?_; (focus (first | omega | (simp; done) | (simp; omega)))) | (with_reducible refine bl_set ?_ ?_; (focus (first | omega | (simp; done) | (simp; omega)))) | (with_reducible refine bl_trans ?_ (by assumption) ?_; (focus (first | omega | (simp; done) | (simp; omega))))))
      obtain ⟨Z, hLv, hZ⟩ := HV.out.1.live
      have hLv4 := hLv.below hb4
      have hst : V.steps ≤ 360 := by
        have h1 := HV.out.2.2.1.bound hLv.inv
        rw [HV.out.2.2.2] at h1
        have h2 := HQ.out.2.2.1
        have : (VS.init shards.toNat work).work = work := rfl
        rw [this] at h1
        omega
      have hpl : V.past.length ≤ 360 := by have := hLv.inv.past; omega
      have HH := Lib.hid (History_any hLv4 (by omega))
      have HLv := Lib.hid hLv4
      have HM0 := Lib.hid (And.intro hMp0 hMo0)
      have HB4 := Lib.hid hb4
      have hZ4 := Lib.hid hLv.lt
      rw [hW4]
      clear hLv hLv4 hMp0 hMo0 hb4
      refine HH.out.mono ?_
      rintro e w5 ⟨A5, c5, rfl, hc5, hrow, hA5, hb5⟩
      have hz5 := hb5.size
      have HRow := Lib.hid (And.intro hrow hA5)
      have HB5 := Lib.hid hb5
      obtain ⟨n, hn⟩ : ∃ n, n = V.past.length := ⟨_, rfl⟩
      rw [← hn] at hc5 hpl ⊢
      have HNn := Lib.hid hn
      clear HH hrow hA5 hb5 hW4 hn
      go_wp2_with fail
      go_loopw [12, 13, 14, 15, 16, 50] (fun _ _ _ _ _ s wx => ∃ (j : Nat) (Mo : List (Nat × CallR)), s = .int .i64 j ∧ j ≤ n ∧ MapAt wx w4.heap.size encK evI (putsOf (V.past.take j)) ∧ MapAt wx (w4.heap.size + 1) encW evC Mo ∧ opens (V.past.take j) Mo ∧ Chg (fun b => b = w4.heap.size ∨ b = w4.heap.size + 1) w5 wx)
        (fun _ _ _ _ _ s _ => n - (intOf s).toNat)
      case atStart => exact ⟨0, [], rfl, by omega, (HM0.out.1.keep (HB5.out.block _ (by omega))), (HM0.out.2.keep (HB5.out.block _ (by omega))), opens_nil, Chg.refl _ _⟩
      case round =>
        obtain ⟨j, Mo, rfl, hj, hMp, hMo, hop, hC⟩ := hrel
        have HMr := Lib.hid (And.intro hMp (And.intro hMo (And.intro hop hC)))
        have hzr := hC.size
        clear hMp hMo hop hC
        by_cases hlt : j < n
        · have d1 : decide ((j : Int) < (n : Int)) = true := by simp; omega
          have q1 : (0 : Int) ≤ (j : Int) := by omega
          have q2 : (j : Int) < (n : Int) := by omega
          obtain ⟨c, hcj⟩ : ∃ c, V.past[j]? = some c := ⟨V.past[j]'(by have := HNn.out; omega), List.getElem?_eq_getElem _⟩
          obtain ⟨g, rfl, hgl, hcs⟩ := HRow.out.1 j c hcj
          have hg4 := HRow.out.2 g rfl
          have hcw : ∀ k, k < 8 → wr.cell? ⟨g, j * 8 + k, none⟩ = c.cells[k]? := fun k hk => (HMr.out.2.2.2.cell (p := ⟨g, j * 8 + k, none⟩) hgl (by show ¬ (g = _ ∨ g = _); omega)).trans (hcs k hk)
          have x0 : wr.cell? ⟨g, j * 8, none⟩ = some (.int .i64 c.worker) := hcw 0 (by omega)
          have x1 : wr.cell? ⟨g, j * 8 + 1, none⟩ = some (.int .i64 c.kind) := hcw 1 (by omega)
          have x2 : wr.cell? ⟨g, j * 8 + 2, none⟩ = some (.string c.key) := hcw 2 (by omega)
          have x3 : wr.cell? ⟨g, j * 8 + 3, none⟩ = some (.int .i64 c.value) := hcw 3 (by omega)
          have x4 : wr.cell? ⟨g, j * 8 + 4, none⟩ = some (.int .i64 c.from_) := hcw 4 (by omega)
          have x5 : wr.cell? ⟨g, j * 8 + 5, none⟩ = some (.int .i64 c.to) := hcw 5 (by omega)
          have x6 : wr.cell? ⟨g, j * 8 + 6, none⟩ = some (.int .i64 c.answer) := hcw 6 (by omega)
          have x7 : wr.cell? ⟨g, j * 8 + 7, none⟩ = some (.int .i64 c.err) := hcw 7 (by omega)
          have HCJ := Lib.hid hcj
          have HS := Lib.hid (opens_snoc HV.out.1.inv3 hcj HMr.out.2.2.1)
          clear hcw hcs hcj
          by_cases h0 : c.to < 0
          · have d2 : decide (c.to < 0) = true := by simpa using h0
            obtain ⟨i, xh, hwi, hih, _⟩ := HV.out.1.inv3.open_ j c HCJ.out h0
            obtain ⟨w7, hrun, hM7, hC7, hs7⟩ := (HMr.out.2.1.keep (w' := wr.alloc (.cells c.cells.toArray 46)) (Below.heap_alloc _ _ _ (by omega))).store keyW Try.underlying58 i c
            have hrun' : (Instr.mapUpdate 58 (.map (some (w4.heap.size + 1))) (.int .i64 c.worker) (.agg #[.int .i64 c.worker, .int .i64 c.kind, .string c.key, .int .i64 c.value, .int .i64 c.from_, .int .i64 c.to, .int .i64 c.answer, .int .i64 c.err])).run Try.prog (wr.alloc (.cells #[.int .i64 c.worker, .int .i64 c.kind, .string c.key, .int .i64 c.value, .int .i64 c.from_, .int .i64 c.to, .int .i64 c.answer, .int .i64 c.err] 46)) = .ok () w7 := by
              show (Instr.mapUpdate 58 (.map (some (w4.heap.size + 1))) (.int .i64 c.worker) (evC c)).run Try.prog (wr.alloc (.cells c.cells.toArray 46)) = .ok () w7
              rw [hwi]
              exact hrun
            have B7 := Lib.hid (bk_chg hC7 (by omega) (bk_new (w := wr) (t := 46) (cs := c.cells.toArray) rfl))
            have y1 : w7.cell? ⟨wr.heap.size, 1, none⟩ = some (.int .i64 c.kind) := B7.out.cell 1
            have y5 : w7.cell? ⟨wr.heap.size, 5, none⟩ = some (.int .i64 c.to) := B7.out.cell 5
            have hCn : Chg (fun b => b = w4.heap.size ∨ b = w4.heap.size + 1) w5 w7 := (cg_alloc HMr.out.2.2.2).then_ hC7 (fun b _ hb => .inr hb)
            have hMp7 : MapAt w7 w4.heap.size encK evI (putsOf (V.past.take (j + 1))) := by
              rw [List.take_add_one, HCJ.out, Option.toList_some, putsOf_snoc, if_neg (by unfold okB; simp; omega)]
              exact (HMr.out.1.keep (w' := wr.alloc (.cells c.cells.toArray 46)) (Below.heap_alloc _ _ _ (by omega))).chg hC7 (by omega)
            have HE := Lib.hid (And.intro hMp7 (And.intro hM7 (And.intro (HS.out.1 h0 i hwi) hCn)))
            clear hrun hM7 hC7 hs7 hCn hMp7 h0 hih hwi
            cases hk : (c.kind != 1) with
            | true =>
              go_wp2_with fail
              exact ⟨⟨j + 1, mput Mo i c, by simp, by omega, HE.out⟩, by simp [intOf]; omega⟩
            | false =>
              go_wp2_with fail
              exact ⟨⟨j + 1, mput Mo i c, by simp, by omega, HE.out⟩, by simp [intOf]; omega⟩
          · have d2 : decide (c.to < 0) = false := by simpa using h0
            have hop2 := HS.out.2 h0
            have hCn : Chg (fun b => b = w4.heap.size ∨ b = w4.heap.size + 1) w5 (wr.alloc (.cells #[.int .i64 c.worker, .int .i64 c.kind, .string c.key, .int .i64 c.value, .int .i64 c.from_, .int .i64 c.to, .int .i64 c.answer, .int .i64 c.err] 46)) := cg_alloc HMr.out.2.2.2
            have hMo6 : MapAt (wr.alloc (.cells #[.int .i64 c.worker, .int .i64 c.kind, .string c.key, .int .i64 c.value, .int .i64 c.from_, .int .i64 c.to, .int .i64 c.answer, .int .i64 c.err] 46)) (w4.heap.size + 1) encW evC Mo := HMr.out.2.1.keep (Below.heap_alloc _ _ _ (by omega))
            have hMp6 : MapAt (wr.alloc (.cells #[.int .i64 c.worker, .int .i64 c.kind, .string c.key, .int .i64 c.value, .int .i64 c.from_, .int .i64 c.to, .int .i64 c.answer, .int .i64 c.err] 46)) w4.heap.size encK evI (putsOf (V.past.take j)) := HMr.out.1.keep (Below.heap_alloc _ _ _ (by omega))
            by_cases hok : okB c = true
            · have hokd := (okB_iff c).1 hok
              obtain ⟨hk1, _, he0⟩ := hokd
              have k1 : (c.kind != 1) = false := by simpa using hk1
              have k2 : (c.err != 0) = false := by simpa using he0
              have k3 : (c.value != c.value) = false := by simp
              have hnew := puts_new HV.out.1.inv3 HCJ.out ((okB_iff c).1 hok)
              have hlk : (Instr.lookup 57 (.map (some w4.heap.size)) (.string c.key) true).run Try.prog (wr.alloc (.cells #[.int .i64 c.worker, .int .i64 c.kind, .string c.key, .int .i64 c.value, .int .i64 c.from_, .int .i64 c.to, .int .i64 c.answer, .int .i64 c.err] 46)) = .ok (.tuple #[.int .i64 0, .bool false]) (wr.alloc (.cells #[.int .i64 c.worker, .int .i64 c.kind, .string c.key, .int .i64 c.value, .int .i64 c.from_, .int .i64 c.to, .int .i64 c.answer, .int .i64 c.err] 46)) := by
                have := hMp6.look keyK Try.underlying57 (zero_i64 _) c.key true
                rw [hnew] at this
                exact this
              obtain ⟨w7, hrun, hM7, hC7, hs7⟩ := hMp6.store keyK Try.underlying57 c.key c.value
              have hrun' : (Instr.mapUpdate 57 (.map (some w4.heap.size)) (.string c.key) (.int .i64 c.value)).run Try.prog (wr.alloc (.cells #[.int .i64 c.worker, .int .i64 c.kind, .string c.key, .int .i64 c.value, .int .i64 c.from_, .int .i64 c.to, .int .i64 c.answer, .int .i64 c.err] 46)) = .ok () w7 := hrun
              have B7 := Lib.hid (bk_chg hC7 (by omega) (bk_new (w := wr) (t := 46) (cs := c.cells.toArray) rfl))
              have y2 : w7.cell? ⟨wr.heap.size, 2, none⟩ = some (.string c.key) := B7.out.cell 2
              have y3 : w7.cell? ⟨wr.heap.size, 3, none⟩ = some (.int .i64 c.value) := B7.out.cell 3
              have hCn7 := hCn.then_ hC7 (S := fun b => b = w4.heap.size ∨ b = w4.heap.size + 1) (fun b _ hb => .inl hb)
              have hM7' : MapAt w7 w4.heap.size encK evI (putsOf (V.past.take (j + 1))) := by
                rw [List.take_add_one, HCJ.out, Option.toList_some, putsOf_snoc, if_pos hok]
                have : mput (putsOf (V.past.take j)) c.key c.value = putsOf (V.past.take j) ++ [(c.key, c.value)] := by
                  unfold mput; rw [if_neg (by rw [hnew]; simp)]
                rw [← this]; exact hM7
              have HE := Lib.hid (And.intro hM7' (And.intro (hMo6.chg hC7 (by omega)) (And.intro hop2 hCn7)))
              have hG := Get_live (((HLv.out.below HB5.out).chg (fun b hb hd => by have := hZ4.out b hb; omega) hCn7)) c.key
              rw [HV.out.1.inv3.good j c HCJ.out ((okB_iff c).1 hok)] at hG
              have HG := Lib.hid hG
              clear hrun hM7 hM7' hC7 hs7 hCn hCn7 hMp6 hMo6 hop2 hok hnew hG h0 hk1 he0
              go_wp2_with fail
              refine HG.out.mono ?_
              rintro e w8 ⟨rfl, rfl⟩
              go_wp2_with fail
              exact ⟨⟨j + 1, Mo, by simp, by omega, HE.out⟩, by simp [intOf]; omega⟩
            · have hput : putsOf (V.past.take (j + 1)) = putsOf (V.past.take j) := by
                rw [List.take_add_one, HCJ.out, Option.toList_some, putsOf_snoc, if_neg hok]
              rw [← hput] at hMp6
              have HE := Lib.hid (And.intro hMp6 (And.intro hMo6 (And.intro hop2 hCn)))
              clear hMp6 hMo6 hop2 hCn hput
              by_cases hk1 : c.kind = 1
              · have k1 : (c.kind != 1) = false := by simpa using hk1
                have k2 : (c.err != 0) = true := by
                  have h0' := h0
                  unfold okB at hok
                  simp at hok ⊢
                  exact hok hk1 (by omega)
                clear hk1 hok h0
                go_wp2_with fail
                exact ⟨⟨j + 1, Mo, by simp, by omega, HE.out⟩, by simp [intOf]; omega⟩
              · have k1 : (c.kind != 1) = true := by simpa using hk1
                clear hk1 hok h0
                go_wp2_with fail
                exact ⟨⟨j + 1, Mo, by simp, by omega, HE.out⟩, by simp [intOf]; omega⟩
        · have d1 : decide ((j : Int) < (n : Int)) = false := by simp; omega
          obtain rfl : j = n := by omega
          have htk : V.past.take j = V.past := by rw [HNn.out, List.take_length]
          have hLr := (HLv.out.below HB5.out).chg (fun b hb hd => by have := hZ4.out b hb; omega) HMr.out.2.2.2
          have hvl : V.values.length ≤ 360 := by have := HV.out.1.inv3.vlen; omega
          have HAl := Lib.hid (All_live hLr HV.out.1.ksz (by omega))
          have HLr := Lib.hid hLr
          clear hLr
          go_wp2_with fail
          refine HAl.out.mono ?_
          rintro e w6 ⟨Bn, Bv, rfl, hAt, hb6⟩
          have HT := Lib.hid (told_any Bn Bv w6.heap.size (sortedOf V.values) 9999 w6 (Nat.le_refl _) hAt (by omega))
          have HB6 := Lib.hid hb6
          clear hAt HAl hb6
          go_wp2_with fail
          refine HT.out.mono ?_
          rintro e w7 ⟨v, rfl, hown, hb7⟩
          have hlen7 : min 9999 (sortedOf V.values).length = (putsOf V.past).length := by
            rw [sortedOf_len, puts_len HV.out.1.inv3 HV.out.2.1]
            omega
          rw [hlen7] at hown
          obtain ⟨Av, cv, rfl⟩ := own_form hown
          have hz6 := HB6.out.size
          have hz7 := hb7.size
          have hb67 : Below wr.heap.size wr w7 := HB6.out.trans (hb7.mono hz6)
          have hMp7 := HMr.out.1.keep (w' := w7) (hb67.block _ (by omega))
          have hMo7 := HMr.out.2.1.keep (w' := w7) (hb67.block _ (by omega))
          rw [htk] at hMp7
          obtain ⟨np, hnpe⟩ : ∃ np, np = (putsOf V.past).length := ⟨_, rfl⟩
          have hml : ∀ ty, (Builtin.len_ #[57] ty #[.map (some w4.heap.size)]).run Try.prog w7 = .ok (.int .i64 np) w7 := fun ty => by
            rw [hnpe]; exact mapAt_len hMp7 Try.underlying57 ty
          have HMo := Lib.hid hMo7
          have HB67 := Lib.hid hb67
          rw [← hnpe]
          have d9 : ((np : Int) != (np : Int)) = false := by simp
          clear hown HT hMp7 hMo7 hb7 hb67 hlen7 hnpe
          have hop9 := HMr.out.2.2.1
          rw [htk] at hop9
          have HOp := Lib.hid hop9
          have HL7 := Lib.hid (HLr.out.below HB67.out)
          obtain ⟨nw, hnw⟩ : ∃ nw, nw = V.work.length := ⟨_, rfl⟩
          have HWk := Lib.hid (Workers_live HL7.out)
          rw [← hnw] at HWk
          have hnw64 : nw ≤ 64 := by rw [hnw]; exact HL7.out.inv.len_w
          have HNW := Lib.hid hnw
          clear hop9 hnw
          go_wp2_with fail
          refine HWk.out.mono ?_
          rintro e w8 ⟨rfl, rfl⟩
          clear HWk
          go_wp2_with fail
          obtain ⟨wo, hwo⟩ : ∃ wo : World, wo = wr := ⟨_, rfl⟩
          obtain rfl := hwo
          go_loopw [17, 18, 19, 20, 21, 112] (fun _ _ _ _ _ s wx => ∃ t : Nat, s = .int .i64 t ∧ t ≤ nw ∧ Below w7.heap.size w7 wx) (fun _ _ _ _ _ s _ => nw - (intOf s).toNat)
          case atStart => exact ⟨0, rfl, by omega, Below.refl _ _⟩
          case round =>
            obtain ⟨t, rfl, ht, hbt⟩ := hrel
            have HBt := Lib.hid hbt
            have hzt := hbt.size
            have HLt := Lib.hid (HL7.out.below hbt)
            clear hbt
            by_cases hlt2 : t < nw
            · have d3 : decide ((t : Int) < (nw : Int)) = true := by simp; omega
              have HDn := Lib.hid (Done_live HLt.out t)
              cases hd : V.done t with
              | true =>
                rw [hd] at HDn
                clear hd
                go_wp2_with fail
                refine HDn.out.mono ?_
                rintro e w9 ⟨rfl, q, rfl⟩
                go_wp2_with fail
                exact ⟨⟨t + 1, by simp, by omega, bl_drewN HBt.out⟩, by simp [intOf]; omega⟩
              | false =>
                rw [hd] at HDn
                obtain ⟨x, a, hx, ha, h5, hno⟩ := VS.quiet_waits HLt.out.inv HV.out.1.inv3 HV.out.2.1 hd
                obtain ⟨c, hc1, hcw, hck, hckey, hcv, hct⟩ := HV.out.1.inv3.hand t x a hx ha
                have hmg : mget Mo t = some c := (HOp.out t c).2 ⟨x.at_, hc1, hct, hcw⟩
                have hk3 : (c.kind != 3) = false := by
                  obtain ⟨n1, n2⟩ := HV.out.1.inv3.n5 t x a hx ha h5
                  obtain ⟨l, k, hl1, _, hl3⟩ := VS.askOf_lt ha
                  have hw1 : V.work = work := HV.out.2.2.2
                  have hnb := HQ.out.2.2.2 l (by rw [← hw1]; exact List.mem_of_getElem? hl1) a (List.mem_of_getElem? hl3)
                  unfold askBad at hnb
                  simp at hnb ⊢
                  omega
                have hws : V.waits t = true := by
                  rcases HV.out.2.1 t (by rw [← HNW.out]; exact hlt2) with h | h
                  · rw [hd] at h; cases h
                  · exact h
                have hlk : (Instr.lookup 58 (.map (some (w4.heap.size + 1))) (.int .i64 t) true).run Try.prog (wr.drewN 0) = .ok (.tuple #[.agg #[.int .i64 c.worker, .int .i64 c.kind, .string c.key, .int .i64 c.value, .int .i64 c.from_, .int .i64 c.to, .int .i64 c.answer, .int .i64 c.err], .bool true]) (wr.drewN 0) := by
                  have := (HMo.out.keep (w' := wr.drewN 0) (HBt.out.block _ (by omega))).look keyW Try.underlying58 (zero_call _) t true
                  rw [hmg] at this
                  exact this
                have HLk := Lib.hid (show ∀ q, (Instr.lookup 58 (.map (some (w4.heap.size + 1))) (.int .i64 t) true).run Try.prog (wr.drewN q) = .ok (.tuple #[.agg #[.int .i64 c.worker, .int .i64 c.kind, .string c.key, .int .i64 c.value, .int .i64 c.from_, .int .i64 c.to, .int .i64 c.answer, .int .i64 c.err], .bool true]) (wr.drewN q) from fun q => by
                  have := (HMo.out.keep (w' := wr.drewN q) (HBt.out.block _ (by omega))).look keyW Try.underlying58 (zero_call _) t true
                  rw [hmg] at this
                  exact this)
                have HG := Lib.hid (fun W (hb : Below wr.heap.size wr W) => by
                  have := Get_live (HLt.out.below hb) c.key
                  rw [show mget V.values c.key = none by rw [hckey]; exact hno] at this
                  exact this)
                have HWs := Lib.hid (fun W (hb : Below wr.heap.size wr W) => by
                  have := Waits_live (HLt.out.below hb) t
                  rw [hws] at this
                  exact this)
                clear hd hx ha h5 hno hc1 hcw hck hckey hcv hct hmg hws hlk
                go_wp2_with fail
                refine HDn.out.mono ?_
                rintro e wq ⟨rfl, q, hq⟩
                have hlk := HLk.out q
                rw [← hq] at hlk
                have hbq : Below wr.heap.size wr wq := by rw [hq]; exact bl_drewN (Below.refl _ _)
                have hzq := hbq.size
                clear hq
                go_wp2_with fail
                refine (HG.out _ (by (repeat (first | with_reducible exact Below.refl _ _ | (with_reducible refine bl_drew ?_) | (with_reducible refine bl_drewN ?_) | (with_reducible refine bl_alloc ?_ ?_; (focus (first | omega | (simp; done) | (simp; omega)))) | (with_reducible refine bl_set ?_ ?_; (focus (first | omega | (simp; done) | (simp; omega)))) | (with_reducible refine bl_trans ?_ (by assumption) ?_; (focus (first | omega | (simp; done) | (simp; omega)))))))).mono ?_
                rintro e w10 ⟨rfl, rfl⟩
                clear hlk
                go_wp2_with fail
                refine (HWs.out _ (by (repeat (first | with_reducible exact Below.refl _ _ | (with_reducible refine bl_drew ?_) | (with_reducible refine bl_drewN ?_) | (with_reducible refine bl_alloc ?_ ?_; (focus (first | omega | (simp; done) | (simp; omega)))) | (with_reducible refine bl_set ?_ ?_; (focus (first | omega | (simp; done) | (simp; omega)))) | (with_reducible refine bl_trans ?_ (by assumption) ?_; (focus (first | omega | (simp; done) | (simp; omega)))))))).mono ?_
                rintro e w11 ⟨rfl, hb11⟩
                have hz11 := hb11.size
                simp at hz11
                have hbe : Below w7.heap.size w7 w11 := by
                  have hbt := HBt.out
                  exact (by (repeat (first | with_reducible exact Below.refl _ _ | (with_reducible refine bl_drew ?_) | (with_reducible refine bl_drewN ?_) | (with_reducible refine bl_alloc ?_ ?_; (focus (first | omega | (simp; done) | (simp; omega)))) | (with_reducible refine bl_set ?_ ?_; (focus (first | omega | (simp; done) | (simp; omega)))) | (with_reducible refine bl_trans ?_ (by assumption) ?_; (focus (first | omega | (simp; done) | (simp; omega)))))))
                go_wp2_with fail
                exact ⟨⟨t + 1, by simp, by omega, hbe⟩, by simp [intOf]; omega⟩
            · have d3 : decide ((t : Int) < (nw : Int)) = false := by simp; omega
              have hbw : Below w.heap.size w wr := by
                have h1 : Below w.heap.size w W4 := HV.out.1.below.trans (HB4.out.mono HV.out.1.below.size)
                have h2 : Below w.heap.size w w5 := h1.trans (HB5.out.mono h1.size)
                have h3 : Below w.heap.size w wo := h2.trans (HMr.out.2.2.2.to_below (fun b hb => by have := HV.out.1.below.size; omega) h2.size)
                have h4 : Below w.heap.size w w7 := h3.trans (HB67.out.mono h3.size)
                exact h4.trans (HBt.out.mono h4.size)
              have HBw := Lib.hid hbw
              clear hbw
              go_wp2_with fail
              go_ret
              exact ⟨rfl, HBw.out⟩
end Go.Proofs.Ytimkoepaeebleaa
