/- few: whether the calls are so few that all of them may be made. -/
import Derived.Test.YtimkoepaeebleaaShTbl
import Derived.Deep.DeepCutAuto
namespace Go.Proofs.Ytimkoepaeebleaa
open Go.RowKit

/-- The rows of asks that are handed in, at A (nil where there is none). -/
def WorkAt (w : World) (A : Option Addr) (work : List (List Ask)) : Prop := ∀ i asks, work[i]? = some asks →
  ∃ bW oW, A = some ⟨bW, oW, none⟩ ∧ ∃ A' c, w.cell? ⟨bW, oW + i, none⟩ = some (.slice A' asks.length c) ∧ asks.length ≤ c ∧ AskRow w (fun _ => True) A' asks
theorem WorkAt.below {w w' : World} {A : Option Addr} {work : List (List Ask)} (h : WorkAt w A work) (hb : Below w.heap.size w w') : WorkAt w' A work := fun i asks hi => by
  obtain ⟨bW, oW, h1, A', c, h2, h3, h4⟩ := h i asks hi
  exact ⟨bW, oW, h1, A', c, (hb.cell (p := ⟨bW, oW + i, none⟩) (lt_of_cell h2)).trans h2, h3, h4.keep (fun b _ hl => hb.block b hl) (fun _ h => h) hb.size⟩
def shortKeys (l : List Ask) : Bool := l.all fun a => decide (a.key.size ≤ 600)
def fewB (work : List (List Ask)) (np : Nat) : Bool :=
  (work.take 70).all (fun l => shortKeys (l.take 100)) && (decide (min (total (work.take 70)) 4096 ≤ 60) || decide (1024 < min (total (work.take 70)) 4096)) && decide (np ≤ 2000)

set_option maxRecDepth 100000 in
set_option maxHeartbeats 1000000 in
theorem few_any (w : World) (A P : Option Addr) (cW cP np : Nat) (work : List (List Ask)) (h : WorkAt w A work) (hc : work.length ≤ cW) (hl : ∀ l ∈ work, l.length ≤ 1048576) (hw : work.length ≤ 1048576) (hp : np ≤ 1048576) :
    Calls Try.prog 12 #[.slice A work.length cW, .slice P np cP] w fun e w' => e = .returned (.bool (fewB work np)) ∧ Below w.heap.size w w' := by
  have H := Lib.hid h
  have HL := Lib.hid hl
  clear h hl
  obtain ⟨m, hm⟩ : ∃ m, m = min work.length 70 := ⟨_, rfl⟩
  have HM := Lib.hid hm
  clear hm
  go_enter Try.func12, Try.ntmps12
  go_upto_region 2 with fail
  go_cut [14, 15, 16] (fun s14 s15 s16 wx => s14 = .slice A m cW ∧ s15 = .int .i64 m ∧ s16 = .int .i64 0 ∧ wx = w)
  case first =>
    by_cases h70 : work.length ≤ 70
    · have d0 : decide ((70 : Int) < (work.length : Int)) = false := by simp; omega
      have e1 : m = work.length := by rw [HM.out]; omega
      have m2 : (work.length : Int) ≤ (cW : Int) := by omega
      subst e1
      go_wp2_with fail
      go_meet
      exact ⟨rfl, rfl, rfl, rfl⟩
    · have d0 : decide ((70 : Int) < (work.length : Int)) = true := by simp; omega
      have e1 : m = 70 := by rw [HM.out]; omega
      have m2 : (70 : Int) ≤ (cW : Int) := by omega
      subst e1
      go_wp2_with fail
      go_meet
      exact ⟨rfl, rfl, rfl, rfl⟩
  case rest =>
    obtain ⟨rfl, rfl, rfl, e3⟩ := hcut
    obtain rfl := e3.symm
    clear e3
    have hm70 : m ≤ 70 := by rw [HM.out]; omega
    have hmw : m ≤ work.length := by rw [HM.out]; omega
    have hmc : m ≤ cW := by omega
    go_wp2_with fail
    go_loopw [5, 7, 9, 16, 31] (fun n _ _ s _ wx => ∃ j : Nat, s = .int .i64 j ∧ j ≤ m ∧ n = .int .i64 (min (total (work.take j)) 4096 : Nat) ∧ (work.take j).all (fun l => shortKeys (l.take 100)) = true ∧ Below w.heap.size w wx) (fun _ _ _ s _ _ => m - (intOf s).toNat)
    case atStart => exact ⟨0, rfl, by omega, by simp [total], by simp, Below.refl _ _⟩
    case round =>
      obtain ⟨j, rfl, hj, rfl, hk, hb⟩ := hrel
      obtain ⟨n, hn⟩ : ∃ n, n = min (total (work.take j)) 4096 := ⟨_, rfl⟩
      have HK := Lib.hid (And.intro hn hk)
      rw [← hn]
      have hn2 : n ≤ 4096 := by rw [hn]; omega
      clear hn hk
      by_cases hlt : j < m
      · have d1 : decide (j < m) = true := by simpa using hlt
        have q1 : (0 : Int) ≤ (j : Int) := by omega
        have q2 : (j : Int) < (m : Int) := by omega
        obtain ⟨l, hi⟩ : ∃ l, work[j]? = some l := ⟨work[j]'(by omega), List.getElem?_eq_getElem _⟩
        obtain ⟨bW, oW, rfl, A', c, hc1, hcl, hrow⟩ := H.out j l hi
        have hc2 : wr.cell? ⟨bW, oW + j, none⟩ = some (.slice A' l.length c) := (hb.cell (p := ⟨bW, oW + j, none⟩) (lt_of_cell hc1)).trans hc1
        have hll := HL.out l (List.mem_of_getElem? hi)
        have HI := Lib.hid hi
        have HR := Lib.hid hrow
        obtain ⟨n', hn'⟩ : ∃ n', n' = min (n + l.length) 4096 := ⟨_, rfl⟩
        obtain ⟨k, hk⟩ : ∃ k, k = min l.length 100 := ⟨_, rfl⟩
        have HN := Lib.hid (And.intro hn' hk)
        clear hc1 hi hrow hn' hk
        go_upto_region 5 with fail
        go_cut [5] (fun s5 wx => s5 = .int .i64 n' ∧ wx = wr)
        case first =>
          by_cases hs : n + l.length ≤ 4096
          · have d2 : decide ((4096 : Int) < ((n : Int) + (l.length : Int))) = false := by simp; omega
            have e1 : n' = n + l.length := by rw [HN.out.1]; omega
            subst e1
            go_wp2_with fail
            go_meet
            exact ⟨by simp, rfl⟩
          · have d2 : decide ((4096 : Int) < ((n : Int) + (l.length : Int))) = true := by simp; omega
            have e1 : n' = 4096 := by rw [HN.out.1]; omega
            subst e1
            go_wp2_with fail
            go_meet
            exact ⟨rfl, rfl⟩
        case rest =>
          obtain ⟨rfl, e3⟩ := hcut
          obtain rfl := e3.symm
          clear e3
          go_upto_region 6 with fail
          go_cut [29, 30, 31] (fun s29 s30 s31 wx => s29 = .slice A' k c ∧ s30 = .int .i64 k ∧ s31 = .int .i64 0 ∧ wx = wr)
          case first =>
            by_cases hs : l.length ≤ 100
            · have d2 : decide ((100 : Int) < (l.length : Int)) = false := by simp; omega
              have e1 : k = l.length := by rw [HN.out.2]; omega
              have m2 : (l.length : Int) ≤ (c : Int) := by omega
              subst e1
              go_wp2_with fail
              go_meet
              exact ⟨rfl, rfl, rfl, rfl⟩
            · have d2 : decide ((100 : Int) < (l.length : Int)) = true := by simp; omega
              have e1 : k = 100 := by rw [HN.out.2]; omega
              have m2 : (100 : Int) ≤ (c : Int) := by omega
              subst e1
              go_wp2_with fail
              go_meet
              exact ⟨rfl, rfl, rfl, rfl⟩
          case rest =>
            obtain ⟨rfl, rfl, rfl, e3⟩ := hcut
            obtain rfl := e3.symm
            clear e3
            have hkl : k ≤ l.length := by rw [HN.out.2]; omega
            have hbs := hb.size
            go_wp2_with fail
            obtain ⟨wo, hwo⟩ : ∃ wo : World, wo = wr := ⟨_, rfl⟩
            obtain rfl := hwo
            go_loopw [9, 31] (fun _ s wx => ∃ t : Nat, s = .int .i64 t ∧ t ≤ k ∧ shortKeys (l.take t) = true ∧ Below wo.heap.size wo wx) (fun _ s _ => k - (intOf s).toNat)
            case atStart => exact ⟨0, rfl, by omega, by simp [shortKeys], Below.refl _ _⟩
            case round =>
              obtain ⟨t, rfl, ht, hs, hby⟩ := hrel
              have HS := Lib.hid hs
              clear hs
              by_cases hlt2 : t < k
              · have d1 : decide (t < k) = true := by simpa using hlt2
                have q1 : (0 : Int) ≤ (t : Int) := by omega
                have q2 : (t : Int) < (k : Int) := by omega
                obtain ⟨a, ha⟩ : ∃ a, l[t]? = some a := ⟨l[t]'(by omega), List.getElem?_eq_getElem _⟩
                obtain ⟨ba, off, rfl, _, hba, g0, g1, g2⟩ := HR.out t a ha
                have hbw : Below w.heap.size w wr := hb.trans (hby.mono hb.size)
                have hzy := hby.size
                have e0 := (hbw.cell (p := ⟨ba, off + t * 3, none⟩) hba).trans g0
                have e1 := (hbw.cell (p := ⟨ba, off + t * 3 + 1, none⟩) hba).trans g1
                have e2 := (hbw.cell (p := ⟨ba, off + t * 3 + 2, none⟩) hba).trans g2
                have HA := Lib.hid ha
                clear g0 g1 g2 ha hbw
                by_cases hsz : a.key.size ≤ 600
                · have d3 : decide ((600 : Int) < (a.key.size : Int)) = false := by simp; omega
                  go_wp2_with fail
                  go_roundw
                  case rel =>
                    refine ⟨t + 1, by simp, by omega, ?_, (by (repeat (first | with_reducible exact Below.refl _ _ | (with_reducible refine bl_drew ?_) | (with_reducible refine bl_drewN ?_) | (with_reducible refine bl_alloc ?_ ?_; (focus (first | omega | (simp; done) | (simp; omega)))) | (with_reducible refine bl_set ?_ ?_; (focus (first | omega | (simp; done) | (simp; omega)))) | (with_reducible refine bl_trans ?_ (by assumption) ?_; (focus (first | omega | (simp; done) | (simp; omega)))))))⟩
                    have := HS.out
                    unfold shortKeys at this ⊢
                    rw [List.take_add_one, HA.out]
                    simp [this, hsz]
                  case measure => simp [intOf]; omega
                · have d3 : decide ((600 : Int) < (a.key.size : Int)) = true := by simp; omega
                  have hbw : Below w.heap.size w wr := hb.trans (hby.mono hb.size)
                  have hF : fewB work np = false := by
                    have h1 : ¬ (work.take 70).all (fun l => shortKeys (l.take 100)) = true := fun hall => by
                      have hm70' := hm70
                      have h2 := List.all_eq_true.1 hall l (List.mem_of_getElem? (i := j) (by rw [List.getElem?_take, if_pos (by omega)]; exact HI.out))
                      have h3 := List.all_eq_true.1 h2 a (List.mem_of_getElem? (i := t) (by rw [List.getElem?_take, if_pos (by have := HN.out.2; omega)]; exact HA.out))
                      simp at h3
                      omega
                    unfold fewB
                    simp only [Bool.not_eq_true] at h1
                    rw [h1]
                    simp
                  have HF := Lib.hid hF
                  clear hF
                  go_wp2_with fail
                  go_ret
                  exact ⟨ret_bool HF.out.symm, (by (repeat (first | with_reducible exact Below.refl _ _ | (with_reducible refine bl_drew ?_) | (with_reducible refine bl_drewN ?_) | (with_reducible refine bl_alloc ?_ ?_; (focus (first | omega | (simp; done) | (simp; omega)))) | (with_reducible refine bl_set ?_ ?_; (focus (first | omega | (simp; done) | (simp; omega)))) | (with_reducible refine bl_trans ?_ (by assumption) ?_; (focus (first | omega | (simp; done) | (simp; omega)))))))⟩
              · have d1 : decide (t < k) = false := by simpa using hlt2
                obtain rfl : t = k := by omega
                have hj1 : (work.take (j + 1)).all (fun l => shortKeys (l.take 100)) = true := by
                  have hk' := HK.out.2
                  rw [List.take_add_one, HI.out, List.all_append, hk']
                  have h1 := HS.out
                  have h2 : l.take 100 = l.take t := by
                    rw [HN.out.2, List.take_eq_take_iff]
                    omega
                  simp [h2, h1]
                have hn1 : n' = min (total (work.take (j + 1))) 4096 := by
                  have h1 := total_take work j l HI.out
                  have h2 := HN.out.1
                  have h3 := HK.out.1
                  omega
                have HJ := Lib.hid (And.intro hj1 hn1)
                have hbw : Below w.heap.size w wr := hb.trans (hby.mono hb.size)
                clear hj1 hn1
                go_wp2_with fail
                exact ⟨⟨j + 1, by simp, by omega, by rw [← HJ.out.2], HJ.out.1, hbw⟩, by simp [intOf]; omega⟩
      · have d1 : decide (j < m) = false := by simpa using hlt
        obtain rfl : j = m := by omega
        have hF : fewB work np = ((decide ((n : Int) ≤ 60) || decide ((1024 : Int) < n)) && decide ((np : Int) ≤ 2000)) := by
          have h70 : work.take 70 = work.take j := by
            rw [HM.out, List.take_eq_take_iff]
            omega
          unfold fewB
          rw [h70, HK.out.2, ← HK.out.1, Bool.true_and]
          congr 1
          · congr 1
            · rw [decide_eq_decide]; omega
            · rw [decide_eq_decide]; omega
          · rw [decide_eq_decide]; omega
        have HF := Lib.hid hF
        clear hF
        go_wp2_with fail
        all_goals go_ret
        all_goals refine ⟨ret_bool ?_, hb⟩
        all_goals rw [HF.out]
        all_goals simp [*]
end Go.Proofs.Ytimkoepaeebleaa
