/- ShardNone: a table that no call made, or none: it has no workers, no calls, no names; a step does nothing. Whatever the worker and the name. No condition. -/
import Derived.Test.YtimkoepaeebleaaShAll0
import Derived.Test.YtimkoepaeebleaaShBgn
import Derived.Test.YtimkoepaeebleaaLaw
namespace Go.Proofs.Ytimkoepaeebleaa
open Go.ChangeShapes Go.WideShapes Go.ChangeAt Go.RowKit
open Go.ChangeMaps (open_string shut_string)

def zeroTab : Array Value := #[.pointer none, .int .i64 0, .slice none 0 0, .slice none 0 0, .map none, .map none, .map none, .slice none 0 0, .int .i64 0]
/-- No table: nil, or one that no call made. -/
inductive NoTab (w : World) : Value → Prop
  | nil : NoTab w (.pointer none)
  | zero (b : Nat) (h : Blk w b 66 zeroTab) : NoTab w (.pointer (some ⟨b, 0, none⟩))
theorem NoTab.below {w w' : World} {p : Value} (h : NoTab w p) (hb : Below w.heap.size w w') : NoTab w' p := by
  cases h with
  | nil => exact .nil
  | zero b h => exact .zero b (bk_below hb h.lt h)
theorem NoTab.drewN {w : World} {p : Value} (h : NoTab w p) (n : Nat) : NoTab (w.drewN n) p := h.below (bl_drewN (Below.refl _ _))

theorem Workers_no {w : World} {p : Value} (h : NoTab w p) : Calls Try.prog 15 #[p] w fun e w' => e = .returned (.int .i64 0) ∧ w = w' := by
  cases h with
  | nil =>
    go_enter Try.func15, Try.ntmps15
    go_wp2
    go_ret
    exact ⟨rfl, rfl⟩
  | zero b h =>
    have c2 : w.cell? ⟨b, 2, none⟩ = some (.slice none 0 0) := by rw [h.cell]; rfl
    clear h
    go_enter Try.func15, Try.ntmps15
    go_wp2
    go_ret
    exact ⟨rfl, rfl⟩
theorem Done_no {w : World} {p : Value} (h : NoTab w p) (i : Int) : Calls Try.prog 17 #[p, .int .i64 i] w fun e w' => e = .returned (.bool true) ∧ ∃ n, w' = w.drewN n := by
  have H := Lib.hid h
  clear h
  by_cases h0 : i < 0
  · have b0 : decide (i < 0) = true := by simpa using h0
    clear h0
    go_enter Try.func17, Try.ntmps17
    go_wp2_with fail
    go_quiet (fail)
    go_wp2
    go_ret
    exact ⟨rfl, nq, rfl⟩
  · have b0 : decide (i < 0) = false := by simpa using h0
    have b1 : decide ((0 : Int) ≤ i) = true := by simp; omega
    clear h0
    go_enter Try.func17, Try.ntmps17
    go_wp2_with fail
    go_quiet ((go_at_call 15; exact Calls.quiet_of_same ((Workers_no (H.out.drewN _)).mono fun _ _ ⟨he, hw⟩ => ⟨he, hw.symm⟩)))
    go_wp2
    go_ret
    exact ⟨rfl, nq, rfl⟩
theorem Waits_no {w : World} {p : Value} (h : NoTab w p) (i : Int) : Calls Try.prog 18 #[p, .int .i64 i] w fun e w' => e = .returned (.bool false) ∧ ∃ n, w' = w.drewN n := by
  have HD := Lib.hid (Done_no h i)
  clear h
  go_enter Try.func18, Try.ntmps18
  go_wp2_with fail
  refine HD.out.mono ?_
  rintro e w' ⟨rfl, n, rfl⟩
  go_wp2_with fail
  go_ret
  exact ⟨rfl, n, rfl⟩
set_option maxHeartbeats 1000000 in
theorem Step_no {w : World} {p : Value} (h : NoTab w p) (i : Int) : Calls Try.prog 33 #[p, .int .i64 i] w fun e w' => e = .returned (.tuple #[]) ∧ ∃ n, w' = w.drewN n := by
  have HD := Lib.hid (Done_no h i)
  clear h
  go_enter Try.func33, Try.ntmps33
  go_wp2_with fail
  refine HD.out.mono ?_
  rintro e w' ⟨rfl, n, rfl⟩
  go_wp2_with fail
  refine bodyPost_ret (v := .tuple #[]) (by simp [results, Try.results33, go_sem, *]) rfl ⟨rfl, n, rfl⟩
theorem lookup_nil (w : World) (key : ByteArray) : (Instr.lookup 57 (.map none) (.string key) true).run Try.prog w = .ok (.tuple #[.int .i64 0, .bool false]) w := by kernel_rfl
theorem Get_no {w : World} {p : Value} (h : NoTab w p) (key : ByteArray) : Calls Try.prog 22 #[p, .string key] w (GetPost w 0 false) := by
  cases h with
  | nil => exact Get_nil w key
  | zero b h =>
    have c5 : w.cell? ⟨b, 5, none⟩ = some (.map none) := by rw [h.cell]; rfl
    have hl := lookup_nil w key
    clear h
    go_enter Try.func22, Try.ntmps22
    go_wp2_with fail
    refine bodyPost_ret (v := .tuple #[.int .i64 0, .bool false]) (by simp [results, Try.results22, go_sem, *]) rfl ⟨rfl, rfl⟩
theorem History_no {w : World} {p : Value} (h : NoTab w p) : Calls Try.prog 27 #[p] w fun e w' => e = .returned (.slice none 0 0) ∧ w = w' := by
  cases h with
  | nil =>
    go_enter Try.func27, Try.ntmps27
    go_wp2
    go_ret
    exact ⟨rfl, rfl⟩
  | zero b h =>
    have c7 : w.cell? ⟨b, 7, none⟩ = some (.slice none 0 0) := by rw [h.cell]; rfl
    clear h
    go_enter Try.func27, Try.ntmps27
    go_wp2_with fail
    (go_at_call 46; refine (CloneNilCall _).mono ?_; rintro e w1 ⟨rfl, rfl⟩)
    go_wp2_with fail
    go_ret
    exact ⟨rfl, rfl⟩
theorem All_no {w : World} {p : Value} (h : NoTab w p) : Calls Try.prog 31 #[p] w (AllPost w []) := by
  cases h with
  | nil => exact All_nil w
  | zero b h => exact All_none w b h.lt (by rw [h.cell]; rfl)

set_option maxRecDepth 100000 in
set_option maxHeartbeats 2000000 in
theorem none_walk (i : Int) (key : ByteArray) (w : World) : Calls Try.prog 6 #[.int .i64 i, .string key] w fun e w' => e = .returned (.bool true) ∧ Below w.heap.size w w' := by
  go_enter Try.func6, Try.ntmps6
  go_wp2_with fail
  obtain ⟨W0, hW0⟩ : ∃ W0 : World, (w.alloc (.cells zeroTab 66)).alloc (.cells #[.pointer none, .pointer (some ⟨w.heap.size, 0, none⟩)] 30) = W0 := ⟨_, rfl⟩
  have hz0 : W0.heap.size = w.heap.size + 2 := by rw [← hW0]; simp
  have hB0 : Below w.heap.size w W0 := by rw [← hW0]; (repeat (first | with_reducible exact Below.refl _ _ | (with_reducible refine bl_drew ?_) | (with_reducible refine bl_drewN ?_) | (with_reducible refine bl_alloc ?_ ?_; (focus (first | omega | (simp; done) | (simp; omega)))) | (with_reducible refine bl_set ?_ ?_; (focus (first | omega | (simp; done) | (simp; omega)))) | (with_reducible refine bl_trans ?_ (by assumption) ?_; (focus (first | omega | (simp; done) | (simp; omega))))))
  have hZ : Blk W0 w.heap.size 66 zeroTab := by rw [← hW0]; exact bk_alloc (bk_new rfl)
  have hT : Blk W0 (w.heap.size + 1) 30 #[.pointer none, .pointer (some ⟨w.heap.size, 0, none⟩)] := by rw [← hW0]; exact bk_new (by simp)
  unfold zeroTab at hW0
  rw [hW0]
  clear hW0
  go_loopw [6, 7, 8, 13] (fun _ _ _ s wx => ∃ j : Nat, s = .int .i64 j ∧ j ≤ 2 ∧ Below W0.heap.size W0 wx) (fun _ _ _ s _ => 2 - (intOf s).toNat)
  case atStart => exact ⟨0, rfl, by omega, Below.refl _ _⟩
  case round =>
    obtain ⟨j, rfl, hj, hbx⟩ := hrel
    by_cases hlt : j < 2
    · obtain ⟨p, hp, hN⟩ : ∃ p, wr.cell? ⟨w.heap.size + 1, j, none⟩ = some p ∧ NoTab wr p := by
        rw [(bk_below hbx (by omega) hT).cell]
        have hj' : j = 0 ∨ j = 1 := by omega
        rcases hj' with rfl | rfl
        · exact ⟨_, rfl, .nil⟩
        · exact ⟨_, rfl, .zero _ (bk_below hbx (by omega) hZ)⟩
      have d1 : decide ((j : Int) < 2) = true := by simp; omega
      have q1 : (0 : Int) ≤ (j : Int) := by omega
      have q2 : (j : Int) < 2 := by omega
      have HN := Lib.hid hN
      clear hN
      go_wp2_with fail
      refine (Step_no HN.out _).mono ?_
      rintro e w1 ⟨rfl, n1, rfl⟩
      go_wp2_with fail
      refine (Get_no (HN.out.drewN _) _).mono ?_
      rintro e w1 ⟨rfl, rfl⟩
      go_wp2_with fail
      refine (Workers_no (HN.out.drewN _)).mono ?_
      rintro e w1 ⟨rfl, rfl⟩
      go_wp2_with fail
      refine (Done_no (HN.out.drewN _) _).mono ?_
      rintro e w1 ⟨rfl, n2, rfl⟩
      go_wp2_with fail
      refine (Waits_no (HN.out.drewN _) _).mono ?_
      rintro e w1 ⟨rfl, n3, rfl⟩
      go_wp2_with fail
      refine (History_no (HN.out.drewN _)).mono ?_
      rintro e w1 ⟨rfl, rfl⟩
      go_wp2_with fail
      refine (All_no (HN.out.drewN _)).mono ?_
      rintro e w2 ⟨Bn, Bv, rfl, hA, hb2⟩
      have HT := Lib.hid (told_any Bn Bv w2.heap.size (sortedOf []) 9 w2 (Nat.le_refl _) hA (by omega))
      clear hA
      go_wp2_with fail
      refine HT.out.mono ?_
      rintro e w3 ⟨v, rfl, hown, hb3⟩
      rw [show min 9 (sortedOf []).length = 0 by rw [sortedOf_len]; rfl] at hown
      obtain ⟨A, c, rfl⟩ := own_form hown
      clear hown HT
      have hz2 := hb2.size
      have hz3 := hb3.size
      have hbz := hbx.size
      simp at hz2
      have hbw : Below W0.heap.size W0 w3 := (by (repeat (first | with_reducible exact Below.refl _ _ | (with_reducible refine bl_drew ?_) | (with_reducible refine bl_drewN ?_) | (with_reducible refine bl_alloc ?_ ?_; (focus (first | omega | (simp; done) | (simp; omega)))) | (with_reducible refine bl_set ?_ ?_; (focus (first | omega | (simp; done) | (simp; omega)))) | (with_reducible refine bl_trans ?_ (by assumption) ?_; (focus (first | omega | (simp; done) | (simp; omega)))))))
      go_wp2_with fail
      go_roundw
      case rel => exact ⟨j + 1, by simp, by omega, hbw⟩
      case measure => simp [intOf]; omega
    · obtain rfl : j = 2 := by omega
      have HB := Lib.hid (begun_any wr)
      go_wp2_with fail
      refine HB.out.mono ?_
      rintro e w1 ⟨rfl, hb1⟩
      have hz := hbx.size
      go_wp2_with fail
      go_ret
      exact ⟨rfl, hB0.trans ((hbx.mono hB0.size).trans (hb1.mono (by omega)))⟩

namespace shardNone
theorem laidOut : laidOutB Try.prog = true := by kernel_rfl
theorem own : ownKnob Try.prog.godebug = none := by kernel_rfl
set_option maxRecDepth 100000 in
theorem lifted (os : Os) (started : os.Started) (H : Type) (enc : TypeId × Value → H) :
    ReturnsInHanded {} Try.checked os 6 .any (Rows.shardNoneSpec.pre6 enc Try.prog Try.f6 Rows.shardNoneRow.domain false) (Rows.shardNoneSpec.post enc Try.prog Try.f6 false true false false) := by
  refine returnsInHanded_of_change (C := Try.checked) own started (by kernel_rfl) Try.func6
    (ChangeSpec.witness6 (enc := enc) (C := Try.checked) false ⟨#[], #[.int .i64 0, .string ByteArray.empty], []⟩ 8 (by kernel_rfl) (by kernel_rfl) (by kernel_rfl) (by kernel_rfl)) ?_
  intro W base args ds gs before hval0 hW hcnd _
  have hval : ∀ (j : Nat) t v, Try.f6.params[j]? = some t → args[j]? = some v → Value.okWide Try.prog W .any base t v := hval0
  have hW' := hW
  obtain ⟨p, q, hA0, hV, rfl, hfz, hnd⟩ := hW
  have hA : DataW.TrodAll enc Try.prog W 0 (fun _ => true) true Try.f6.params.toList args.toList ds p := hA0
  rw [Try.params6] at hA hval
  obtain ⟨v0, vs0, d0, ds0, p0, q0, hargs, rfl, rfl, h0, r0⟩ := trodAll_cons hA
  obtain ⟨v1, vs1, d1, ds1, p1, q1, rfl, rfl, rfl, h1, r1⟩ := trodAll_cons r0
  obtain ⟨rfl, rfl, rfl⟩ := trodAll_nil r1
  obtain rfl : args = #[v0, v1] := by cases args; simp_all
  obtain ⟨rfl, rfl⟩ := trodVars_none hV
  obtain ⟨n, rfl, rfl, rfl, wn⟩ := open_int Try.underlying3 (hval 0 3 v0 rfl rfl) h0
  obtain ⟨s, rfl, rfl, rfl, ws⟩ := open_string Try.underlying9 (hval 1 9 v1 rfl rfl) h1
  clear hA0 hval0
  simp only [List.append_nil] at hW'
  refine (none_walk n s W).mono fun e W' ⟨he, hg⟩ => ?_
  subst he
  exact ⟨_, rfl, law_post laidOut (by kernel_rfl) (by kernel_rfl) Try.underlying4 rfl hW' rfl hg⟩

theorem over : Rows.shardNoneRow.holds Try.pinned (OpenSpec.ofChange Rows.shardNoneSpec) :=
  OpenClaim.holds_of_wide 6 Try.f6 rfl rfl rfl rfl rfl rfl rfl ⟨rfl, rfl, rfl, rfl, rfl⟩ rfl rfl rfl rfl rfl (by kernel_rfl) Try.func6 (by kernel_rfl)
    (of_decide_eq_true (by kernel_rfl)) (by unfold Func.isWrapper; first | (rw [if_pos (by decide +kernel)]; kernel_rfl) | (rw [if_neg (by decide +kernel)]; exact ⟨rfl, rfl⟩))
    (fun os started H enc _ => lifted os started H enc)
end shardNone

theorem shardNone_holds : Rows.ShardNoneSaid := shardNone.over
end Go.Proofs.Ytimkoepaeebleaa
