/- begun: a define alone, and a hash. -/
import Derived.Test.YtimkoepaeebleaaShLook
import Derived.Test.YtimkoepaeebleaaShEqu
namespace Go.Proofs.Ytimkoepaeebleaa
open Go.RowKit

def keyA : ByteArray := { data := #[97] }
def askA : Ask := ⟨1, keyA, 5⟩
def stepN : Nat → VS → VS
  | 0, V => V
  | n + 1, V => (stepN n V).step 0
def V5 : VS := stepN 5 (VS.init 4 [[askA]])
def callA : CallR := ⟨0, 1, keyA, 5, 0, 5, 0, 0⟩
theorem v5_past : V5.past = [callA] := by kernel_rfl
theorem v5_get : (mget V5.values keyA).getD 0 = 5 ∧ (mget V5.values keyA).isSome = true := ⟨by kernel_rfl, by kernel_rfl⟩
theorem v5_done : V5.done 0 = true := by kernel_rfl
theorem hash_nil : hashL (ByteArray.empty).data.toList = hash0 := by kernel_rfl
def hashA : Int := 12638187200555641996
theorem hash_a : hashL keyA.data.toList = hashA := by kernel_rfl
theorem stepN_steps (n : Nat) (V : VS) : (stepN n V).steps ≤ V.steps + n := by
  induction n with
  | zero => exact Nat.le_refl _
  | succ n ih =>
    have := (VS.step_steps (stepN n V) 0).1
    simp only [stepN]
    omega

theorem workA {w : World} {g1 g2 : Nat} (h1 : Blk w g1 70 #[.int .i64 1, .string keyA, .int .i64 5]) (h2 : Blk w g2 71 #[.slice (some ⟨g1, 0, none⟩) 1 1]) : WorkRow w g2 0 [[askA]] := by
  intro i asks hi
  obtain rfl : i = 0 := by
    have := (List.getElem?_eq_some_iff.1 hi).1
    simpa using this
  obtain rfl : [askA] = asks := by simpa using hi
  refine ⟨some ⟨g1, 0, none⟩, 1, by rw [h2.cell]; rfl, Nat.le_refl _, fun k a hk => ?_⟩
  obtain rfl : k = 0 := by
    have := (List.getElem?_eq_some_iff.1 hk).1
    simpa using this
  obtain rfl : askA = a := by simpa using hk
  exact ⟨g1, 0, rfl, trivial, h1.lt, by rw [h1.cell]; rfl, by rw [h1.cell]; rfl, by rw [h1.cell]; rfl⟩

theorem callRow_own {w : World} {base g cap : Nat} {l : List CallR} (h : w.ownsRow base 46 8 (.slice (some ⟨g, 0, none⟩) l.length cap) l.length (l.flatMap CallR.cells)) : CallRow w g l := by
  rcases h.2 with ⟨h0, _⟩ | ⟨g', cap', cur, hv, hb, hh, hc, _, hs, ht⟩
  · cases h0
  · simp only [Value.slice.injEq, Option.some.injEq, Addr.mk.injEq] at hv
    obtain ⟨⟨rfl, _⟩, _, rfl⟩ := hv
    intro j c hj k hk
    have hjl : j < l.length := (List.getElem?_eq_some_iff.1 hj).1
    have := flat_get CallR.cells 8 cells_len l j k hk
    rw [← ht, List.getElem?_take, if_pos (by omega), hj] at this
    rw [cell_of_heap hh]
    simpa using this
theorem hashEmpty (w : World) : Calls Try.prog 8 #[.string { data := #[] }] w fun e w' => e = .returned (.int .u64 hash0) ∧ w = w' := by
  have := Hash_any { data := #[] } w (by decide)
  rw [show hashL ({ data := #[] } : ByteArray).data.toList = hash0 from rfl] at this
  exact this
theorem hashKeyA (w : World) : Calls Try.prog 8 #[.string { data := #[97] }] w fun e w' => e = .returned (.int .u64 hashA) ∧ w = w' := by
  have := Hash_any keyA w (by decide)
  rw [hash_a] at this
  exact this
set_option maxRecDepth 100000 in
set_option maxHeartbeats 1000000 in
theorem begun_any (w : World) : Calls Try.prog 7 #[] w fun e w' => e = .returned (.bool true) ∧ Below w.heap.size w w' := by
  have HN := Lib.hid (New_live ((w.alloc (.cells #[.int .i64 1, .string keyA, .int .i64 5] 70)).alloc (.cells #[.slice (some ⟨w.heap.size, 0, none⟩) 1 1] 71)) 4 (w.heap.size + 1) 0 1 [[askA]] (by decide) (by decide) (by decide) (by decide) (by decide) (by intro l hl a ha; simp at hl; subst hl; simp at ha; subst ha; rfl) (by intro l hl a ha; simp at hl; subst hl; simp at ha; subst ha; decide) (workA (bk_alloc (bk_new rfl)) (bk_new (by simp))))
  go_enter Try.func7, Try.ntmps7
  go_wp2_with fail
  refine HN.out.mono ?_
  rintro e w1 ⟨bt, rfl, hL, hb1⟩
  clear HN
  have hz1 := hb1.size
  simp at hz1
  have hb0 : Below w.heap.size w w1 := (by (repeat (first | with_reducible exact Below.refl _ _ | (with_reducible refine bl_drew ?_) | (with_reducible refine bl_drewN ?_) | (with_reducible refine bl_alloc ?_ ?_; (focus (first | omega | (simp; done) | (simp; omega)))) | (with_reducible refine bl_set ?_ ?_; (focus (first | omega | (simp; done) | (simp; omega)))) | (with_reducible refine bl_trans ?_ (by assumption) ?_; (focus (first | omega | (simp; done) | (simp; omega)))))))
  have hL1 : ∃ Z, Live Z w1 bt (stepN 0 (VS.init 4 [[askA]])) ∧ ∀ b, Z b → w.heap.size ≤ b := ⟨_, hL, fun b hb => by have := hb.1; simp at this; omega⟩
  clear hL hb1
  go_wp2_with fail
  go_loopw [18] (fun s wx => ∃ j : Nat, s = .int .i64 j ∧ j ≤ 5 ∧ (∃ Z, Live Z wx bt (stepN j (VS.init 4 [[askA]])) ∧ ∀ b, Z b → w.heap.size ≤ b) ∧ Below w.heap.size w wx) (fun s _ => 5 - (intOf s).toNat)
  case atStart => exact ⟨0, rfl, by omega, hL1, hb0⟩
  case round =>
    obtain ⟨j, rfl, hj, ⟨Z, hL, hZ⟩, hb⟩ := hrel
    have hzr := hb.size
    by_cases hlt : j < 5
    · have d1 : decide ((j : Int) < 5) = true := by simp; omega
      have HS := Lib.hid (Step_live hL (by have := stepN_steps j (VS.init 4 [[askA]]); have : (VS.init 4 [[askA]]).steps = 0 := rfl; omega) 0)
      clear hL
      go_wp2_with fail
      refine HS.out.mono ?_
      rintro e w2 ⟨rfl, hL2, hC2⟩
      have hZ2 : ∀ b, grow Z wr w2 b → w.heap.size ≤ b := fun b hb => by
        rcases hb with hb | hb
        · exact hZ b hb
        · have := hb.1; omega
      have HL2 := Lib.hid (And.intro (⟨_, hL2, hZ2⟩ : ∃ Z, Live Z w2 bt _ ∧ ∀ b, Z b → w.heap.size ≤ b) (hb.trans (hC2.to_below hZ hzr)))
      clear hL2 hC2 HS hZ2
      go_wp2_with fail
      go_roundw
      case rel => exact ⟨j + 1, by simp, by omega, HL2.out.1, HL2.out.2⟩
      case measure => simp [intOf]; omega
    · obtain rfl : j = 5 := by omega
      have hL5 : Live Z wr bt V5 := hL
      have HG := Lib.hid (Get_live hL5 keyA)
      rw [v5_get.1, v5_get.2] at HG
      have HL := Lib.hid hL5
      clear hL hL5 hL1
      go_wp2_with fail
      refine HG.out.mono ?_
      rintro e w2 ⟨rfl, rfl⟩
      have HD := Lib.hid (Done_live HL.out 0)
      rw [v5_done] at HD
      have HH := Lib.hid (fun n => History_live (HL.out.below (w' := w2.drewN n) (bl_drewN (Below.refl _ _))) (by rw [v5_past]; decide) (by rw [v5_past]; decide))
      have h1 : (hash0 == 14695981039346656037) = true := rfl
      have h2 : (hashA == 12638187200555641996) = true := rfl
      have HA0 := Lib.hid hashEmpty
      have HA1 := Lib.hid hashKeyA
      clear HG
      go_wp2_with fail
      refine (HA0.out _).mono ?_
      rintro e w3 ⟨rfl, rfl⟩
      clear HA0
      go_wp2_with fail
      refine (HA1.out _).mono ?_
      rintro e w3 ⟨rfl, rfl⟩
      clear HA1
      go_wp2_with fail
      refine HD.out.mono ?_
      rintro e w3 ⟨rfl, n, rfl⟩
      clear HD
      go_wp2_with fail
      have HHn := Lib.hid (HH.out n)
      clear HH
      refine HHn.out.mono ?_
      rintro e w3 ⟨g, cap, rfl, hown, hb3⟩
      have HO := Lib.hid hown
      have HB3 := Lib.hid hb3
      have hz3 := hb3.size
      simp at hz3
      clear hown HHn hb3
      have l1 : V5.past.length = 1 := by rw [v5_past]; rfl
      rw [l1] at HO
      rw [l1]
      have HE : Hid (∀ W, Below w3.heap.size w3 W → ∀ g2, Blk W g2 46 #[.int .i64 0, .int .i64 1, .string keyA, .int .i64 5, .int .i64 0, .int .i64 5, .int .i64 0, .int .i64 0] → Calls Try.prog 26 #[.slice (some ⟨g, 0, none⟩) 1 cap, .slice (some ⟨g2, 0, none⟩) 1 1] W fun e w' => e = .returned (.bool true) ∧ ∃ n, w' = W.drewN n) := Lib.hid fun W hb g2 hB2 => by
        have hO := HO.out
        rw [v5_past] at hO
        refine EqualCall W g g2 cap 1 [callA] (by decide) (callRow_own (own_below hO hb)) ?_
        intro j c hj k hk
        obtain rfl : j = 0 := by
          have := (List.getElem?_eq_some_iff.1 hj).1
          simpa using this
        obtain rfl : callA = c := by simpa using hj
        rw [hB2.cell]
        have hk' : k = 0 ∨ k = 1 ∨ k = 2 ∨ k = 3 ∨ k = 4 ∨ k = 5 ∨ k = 6 ∨ k = 7 := by omega
        rcases hk' with rfl | rfl | rfl | rfl | rfl | rfl | rfl | rfl <;> rfl
      clear l1
      go_wp2_with fail
      refine (HE.out _ (by (repeat (first | with_reducible exact Below.refl _ _ | (with_reducible refine bl_drew ?_) | (with_reducible refine bl_drewN ?_) | (with_reducible refine bl_alloc ?_ ?_; (focus (first | omega | (simp; done) | (simp; omega)))) | (with_reducible refine bl_set ?_ ?_; (focus (first | omega | (simp; done) | (simp; omega)))) | (with_reducible refine bl_trans ?_ (by assumption) ?_; (focus (first | omega | (simp; done) | (simp; omega))))))) _ (bk_new rfl)).mono ?_
      rintro e w4 ⟨rfl, n4, rfl⟩
      have hb3 := HB3.out
      clear HE HO HB3
      go_wp2_with fail
      go_ret
      exact ⟨rfl, (by (repeat (first | with_reducible exact Below.refl _ _ | (with_reducible refine bl_drew ?_) | (with_reducible refine bl_drewN ?_) | (with_reducible refine bl_alloc ?_ ?_; (focus (first | omega | (simp; done) | (simp; omega)))) | (with_reducible refine bl_set ?_ ?_; (focus (first | omega | (simp; done) | (simp; omega)))) | (with_reducible refine bl_trans ?_ (by assumption) ?_; (focus (first | omega | (simp; done) | (simp; omega)))))))⟩
end Go.Proofs.Ytimkoepaeebleaa
