/- run: workers go on as picks say, and then in turn, till nobody can. -/
import Derived.Test.YtimkoepaeebleaaShPot
import Derived.Test.YtimkoepaeebleaaShLook
import Derived.Test.YtimkoepaeebleaaShFew
namespace Go.Proofs.Ytimkoepaeebleaa
open Go.RowKit

/-- The picks, as they lie in memory. -/
def PicksAt (w : World) (P : Option Addr) (pk : List Nat) : Prop := ∀ (j p : Nat), pk[j]? = some p → ∃ b off, P = some ⟨b, off, none⟩ ∧ w.cell? ⟨b, off + j, none⟩ = some (.int .u8 (p : Int)) ∧ p < 256
theorem PicksAt.below {w w' : World} {P : Option Addr} {pk : List Nat} (h : PicksAt w P pk) (hb : Below w.heap.size w w') : PicksAt w' P pk := fun j p hj => by
  obtain ⟨b, off, h1, h2, h3⟩ := h j p hj
  exact ⟨b, off, h1, (hb.cell (p := ⟨b, off + j, none⟩) (lt_of_cell h2)).trans h2, h3⟩
def RunPost (J : VS → World → Prop) (work : List (List Ask)) (e : Ending) (w' : World) : Prop := ∃ V, e = .returned (.bool true) ∧ J V w' ∧ V.Quiet ∧ V.Pot ∧ V.work = work
def StepK (K : VS → Nat → World → Prop) (V : VS) (i : Nat) (e : Ending) (w' : World) : Prop := e = .returned (.tuple #[]) ∧ K V i w'
def EachK (J : VS → World → Prop) (V : VS) (i : Nat) (e : Ending) (w' : World) : Prop := e = .returned (.bool true) ∧ J (V.step i) w'

/-- In the k-th turn, behind i workers: whether somebody went on. -/
def Moved (V : VS) (k i : Nat) (mb : Bool) : Prop := k ≤ V.steps ∧ (mb = true → k + 1 ≤ V.steps) ∧ (mb = false → ∀ i', i' < i → V.done i' = true ∨ V.waits i' = true)
theorem Moved.stays {V : VS} {k i : Nat} {mb : Bool} (h : Moved V k i mb) (hi : V.done i = true ∨ V.waits i = true) : Moved V k (i + 1) mb :=
  ⟨h.1, h.2.1, fun hb i' hi' => by
    by_cases hii : i' = i
    · subst hii; exact hi
    · exact h.2.2 hb i' (by omega)⟩
theorem Moved.goes {V : VS} {k i : Nat} {mb : Bool} (h : Moved V k i mb) (hI : V.Inv) (hd : V.done i = false) (hw : V.waits i = false) : Moved (V.step i) k (i + 1) true := by
  have h1 := (VS.step_real hI hd hw).1
  have := h.1
  exact ⟨by omega, fun _ => by omega, fun hb => by cases hb⟩

set_option maxRecDepth 100000 in
set_option maxHeartbeats 2000000 in
theorem run_first (bt : Nat)  (J : VS → World → Prop) (K : VS → Nat → World → Prop) (P : Option Addr) (pk : List Nat) (cP : Nat)
    (hL : ∀ V w, J V w → ∃ Z, Live Z w bt V) (hB : ∀ V w w', J V w → Below w.heap.size w w' → J V w') (hpk : ∀ V w, J V w → PicksAt w P pk) (hnp : pk.length ≤ 1048576)
    (hS : ∀ V w i, J V w → V.steps ≤ 900000 → Calls Try.prog 33 #[.pointer (some ⟨bt, 0, none⟩), .int .i64 (i : Nat)] w (StepK K V i))
    (hE : ∀ V w i, K V i w → Calls Try.prog 32 #[.int .i64 (i : Nat)] w (EachK J V i))
    (V : VS) (w : World) (hJ : J V w) (hP : V.Pot) (ht : total V.work ≤ 60) :
    Calls Try.prog 19 #[.pointer (some ⟨bt, 0, none⟩), .slice P pk.length cP, .func (.func 32) #[] #[]] w (RunPost J V.work) := by
  have HL := Lib.hid hL
  have HB := Lib.hid hB
  have HPK := Lib.hid hpk
  have HS := Lib.hid hS
  have HE := Lib.hid hE
  have H0 := Lib.hid (And.intro hJ hP)
  obtain ⟨n, hn⟩ : ∃ n, n = V.work.length := ⟨_, rfl⟩
  have HN := Lib.hid hn
  have hn64 : n ≤ 64 := by rw [hn]; obtain ⟨Z, hl⟩ := hL V w hJ; exact hl.inv.len_w
  obtain ⟨np, hnp'⟩ : ∃ np, np = pk.length := ⟨_, rfl⟩
  have HNP := Lib.hid hnp'
  rw [← hnp'] at hnp ⊢
  have hbd : ∀ V' w', J V' w' → V'.Pot → V'.work = V.work → V'.steps ≤ 360 := fun V' w' h1 h2 h3 => by
    obtain ⟨Z, hl⟩ := hL V' w' h1
    have := h2.bound hl.inv
    rw [h3] at this
    omega
  have HBD := Lib.hid hbd
  clear hL hB hpk hS hE hJ hP hn hnp' hbd
  go_enter Try.func19, Try.ntmps19
  go_wp2_with fail
  go_loopw [8, 9, 14] (fun _ _ s wx => ∃ (j : Nat) (V' : VS), s = .int .i64 j ∧ j ≤ np ∧ J V' wx ∧ V'.Pot ∧ V'.work = V.work) (fun _ _ s _ => np - (intOf s).toNat)
  case atStart => exact ⟨0, V, rfl, by omega, H0.out.1, H0.out.2, rfl⟩
  case round =>
    obtain ⟨j, V', rfl, hj, hJ, hP, hW⟩ := hrel
    have HJ := Lib.hid (And.intro hJ (And.intro hP hW))
    clear hJ hP hW
    by_cases hlt : j < np
    · have d1 : decide ((j : Int) < (np : Int)) = true := by simp; omega
      have q1 : (0 : Int) ≤ (j : Int) := by omega
      have q2 : (j : Int) < (np : Int) := by omega
      obtain ⟨p, hp⟩ : ∃ p, pk[j]? = some p := ⟨pk[j]'(by have := HNP.out; omega), List.getElem?_eq_getElem _⟩
      obtain ⟨b, off, rfl, hc, hp256⟩ := HPK.out V' wr HJ.out.1 j p hp
      obtain ⟨Z, hl⟩ := HL.out V' wr HJ.out.1
      have HWk := Lib.hid (Workers_live hl)
      rw [show V'.work.length = n by rw [HJ.out.2.2, HN.out]] at HWk
      have w1 : wrap64 (p : Int) = p := by unfold wrap64; omega
      obtain ⟨i, hi⟩ : ∃ i, i = p % (n + 1) := ⟨_, rfl⟩
      have e1 : (p : Int) % ((n : Int) + 1) = (i : Int) := by rw [hi]; simp
      have p0 : (0 : Int) ≤ (p : Int) := by omega
      have p1 : (p : Int) ≤ 255 := by omega
      have HSt := Lib.hid (HS.out V' wr i HJ.out.1 (by have := HBD.out V' wr HJ.out.1 HJ.out.2.1 HJ.out.2.2; omega))
      clear hp hl hi
      go_wp2_with fail
      refine HWk.out.mono ?_
      rintro e w2 ⟨rfl, rfl⟩
      go_wp2_with fail
      refine HSt.out.mono ?_
      rintro e w2 ⟨rfl, hK⟩
      have HEa := Lib.hid (HE.out V' w2 i hK)
      clear hK HSt
      go_wp2_with fail
      refine HEa.out.mono ?_
      rintro e w3 ⟨rfl, hJ3⟩
      obtain ⟨Z, hl⟩ := HL.out V' wr HJ.out.1
      have HJ3 := Lib.hid (And.intro hJ3 (And.intro (HJ.out.2.1.step hl.inv i) ((VS.work_step V' i).trans HJ.out.2.2)))
      clear hJ3 hl HEa
      go_wp2_with fail
      exact ⟨⟨j + 1, V'.step i, by simp, by omega, HJ3.out.1, HJ3.out.2.1, HJ3.out.2.2⟩, by simp [intOf]; omega⟩
    · have d1 : decide ((j : Int) < (np : Int)) = false := by simp; omega
      go_wp2_with fail
      go_loopw [10, 11, 32, 36] (fun _ _ s _ wx => ∃ (k : Nat) (V' : VS), s = .int .i64 k ∧ k ≤ 400 ∧ k ≤ V'.steps ∧ J V' wx ∧ V'.Pot ∧ V'.work = V.work) (fun _ _ s _ _ => 400 - (intOf s).toNat)
      case atStart => exact ⟨0, V', rfl, by omega, by omega, HJ.out.1, HJ.out.2.1, HJ.out.2.2⟩
      case round =>
        clear HJ
        obtain ⟨k, V1, rfl, hk, hks, hJ1, hP1, hW1⟩ := hrel
        have HJ1 := Lib.hid (And.intro hJ1 (And.intro hP1 hW1))
        have hk360 : k ≤ 360 := by have := HBD.out V1 wr hJ1 hP1 hW1; omega
        have HKS := Lib.hid hks
        obtain ⟨Z, hl⟩ := HL.out V1 wr hJ1
        have HWk := Lib.hid (Workers_live hl)
        rw [show V1.work.length = n by rw [hW1, HN.out]] at HWk
        have d2 : decide ((k : Int) < 400) = true := by simp; omega
        clear hJ1 hP1 hW1 hl hks
        go_wp2_with fail
        refine HWk.out.mono ?_
        rintro e w2 ⟨rfl, rfl⟩
        clear HWk
        go_wp2_with fail
        go_loopw [10, 11, 36] (fun mv _ s wx => ∃ (i : Nat) (V2 : VS) (mb : Bool), mv = .bool mb ∧ s = .int .i64 i ∧ i ≤ n ∧ (J V2 wx ∧ V2.Pot ∧ V2.work = V.work) ∧ Moved V2 k i mb) (fun _ _ s _ => n - (intOf s).toNat)
        case atStart => exact ⟨0, V1, false, rfl, rfl, by omega, HJ1.out, HKS.out, (fun h => by cases h), (fun _ i1 h => by omega)⟩
        case round =>
          clear HJ1 HKS
          obtain ⟨i, V2, mb, rfl, rfl, hin, hJ2, hmv⟩ := hrel
          have HJ2 := Lib.hid hJ2
          have HMV := Lib.hid hmv
          obtain ⟨Z, hl⟩ := HL.out V2 wr hJ2.1
          have HLv := Lib.hid hl
          clear hJ2 hmv hl
          by_cases hlti : i < n
          · have d3 : decide ((i : Int) < (n : Int)) = true := by simp; omega
            have HDn := Lib.hid (Done_live HLv.out i)
            cases hd : V2.done i with
            | true =>
              rw [hd] at HDn
              have HM2 := Lib.hid (HMV.out.stays (.inl hd))
              clear hd
              go_wp2_with fail
              refine HDn.out.mono ?_
              rintro e w3 ⟨rfl, q, rfl⟩
              have HJ3 := Lib.hid (HB.out V2 wr (wr.drewN q) HJ2.out.1 (bl_drewN (Below.refl _ _)))
              go_wp2_with fail
              exact ⟨⟨i + 1, V2, mb, rfl, by simp, by omega, ⟨HJ3.out, HJ2.out.2⟩, HM2.out⟩, by simp [intOf]; omega⟩
            | false =>
              rw [hd] at HDn
              have HWs := Lib.hid (fun q => Waits_live (HLv.out.below (w' := wr.drewN q) (bl_drewN (Below.refl _ _))) i)
              cases hw : V2.waits i with
              | true =>
                rw [hw] at HWs
                have HM2 := Lib.hid (HMV.out.stays (.inr hw))
                clear hd hw
                go_wp2_with fail
                refine HDn.out.mono ?_
                rintro e w3 ⟨rfl, q, rfl⟩
                go_wp2_with fail
                refine (HWs.out q).mono ?_
                rintro e w3 ⟨rfl, hb3⟩
                have HJ3 := Lib.hid (HB.out V2 wr w3 HJ2.out.1 (bl_trans (B' := (wr.drewN q).heap.size) (Nat.le_refl _) hb3 (bl_drewN (Below.refl _ _))))
                go_wp2_with fail
                exact ⟨⟨i + 1, V2, mb, rfl, by simp, by omega, ⟨HJ3.out, HJ2.out.2⟩, HM2.out⟩, by simp [intOf]; omega⟩
              | false =>
                rw [hw] at HWs
                have HM2 := Lib.hid (HMV.out.goes HLv.out.inv hd hw)
                have HP2 := Lib.hid (And.intro (HJ2.out.2.1.step HLv.out.inv i) ((VS.work_step V2 i).trans HJ2.out.2.2))
                have hst := HBD.out V2 wr HJ2.out.1 HJ2.out.2.1 HJ2.out.2.2
                clear hd hw
                go_wp2_with fail
                refine HDn.out.mono ?_
                rintro e w3 ⟨rfl, q, rfl⟩
                go_wp2_with fail
                refine (HWs.out q).mono ?_
                rintro e w3 ⟨rfl, hb3⟩
                have HSt := Lib.hid (HS.out V2 w3 i (HB.out V2 wr w3 HJ2.out.1 (bl_trans (B' := (wr.drewN q).heap.size) (Nat.le_refl _) hb3 (bl_drewN (Below.refl _ _)))) (by omega))
                clear hb3
                go_wp2_with fail
                refine HSt.out.mono ?_
                rintro e w4 ⟨rfl, hK⟩
                have HEa := Lib.hid (HE.out V2 w4 i hK)
                clear hK HSt
                go_wp2_with fail
                refine HEa.out.mono ?_
                rintro e w5 ⟨rfl, hJ5⟩
                have HJ5 := Lib.hid hJ5
                clear hJ5 HEa
                go_wp2_with fail
                exact ⟨⟨i + 1, V2.step i, true, rfl, by simp, by omega, ⟨HJ5.out, HP2.out⟩, HM2.out⟩, by simp [intOf]; omega⟩
          · have d3 : decide ((i : Int) < (n : Int)) = false := by simp; omega
            cases mb with
            | false =>
              have hq : V2.Quiet := fun i' hi' => HMV.out.2.2 rfl i' (by have := HJ2.out.2.2; rw [this, ← HN.out] at hi'; omega)
              have HQ := Lib.hid hq
              clear hq
              go_wp2_with fail
              go_ret
              exact ⟨V2, rfl, HJ2.out.1, HQ.out, HJ2.out.2.1, HJ2.out.2.2⟩
            | true =>
              have hks := HMV.out.2.1 rfl
              have HKS := Lib.hid hks
              have hst := HBD.out V2 wr HJ2.out.1 HJ2.out.2.1 HJ2.out.2.2
              clear hks
              go_wp2_with fail
              exact ⟨⟨k + 1, V2, by simp, by omega, HKS.out, HJ2.out.1, HJ2.out.2.1, HJ2.out.2.2⟩, by simp [intOf]; omega⟩

end Go.Proofs.Ytimkoepaeebleaa
