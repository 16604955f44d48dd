/- The two hash functions and the two shard numbers compute the same: a fold over the name's bytes. -/
import Derived.Test.YtimkoepaeebleaaKit
namespace Go.Proofs.Ytimkoepaeebleaa
open Go.RowKit

def hash0 : Int := 14695981039346656037
def hstep (h : Int) (c : UInt8) : Int := IntKind.u64.wrap (bits .xor .u64 h (IntKind.u64.wrap (c.toNat : Int)) * 1099511628211)
def hashL (l : List UInt8) : Int := l.foldl hstep hash0
theorem hashL_snoc (l : List UInt8) (c : UInt8) : hashL (l ++ [c]) = hstep (hashL l) c := by simp [hashL]
theorem take_snoc (s : ByteArray) (k : Nat) (h : k < s.size) : s.data.toList.take (k + 1) = s.data.toList.take k ++ [s[k]] := by
  rw [List.take_succ_eq_append_getElem (by simpa using h)]; rfl
theorem hash_next (s : ByteArray) (k : Nat) (h : k < s.size) : IntKind.u64.wrap (bits .xor .u64 (hashL (s.data.toList.take k)) (IntKind.u64.wrap (s[k].toNat : Int)) * 1099511628211) = hashL (s.data.toList.take (k + 1)) := by
  rw [take_snoc s k h, hashL_snoc]; rfl
theorem wrap_u64_bounds (x : Int) : 0 ≤ IntKind.u64.wrap x ∧ IntKind.u64.wrap x ≤ 18446744073709551615 := by
  rw [IntKind.wrap_u64]; omega
theorem hashL_bounds (l : List UInt8) : 0 ≤ hashL l ∧ hashL l ≤ 18446744073709551615 := by
  rcases List.eq_nil_or_concat l with rfl | ⟨l', c, rfl⟩
  · exact ⟨by decide, by decide⟩
  · rw [List.concat_eq_append, hashL_snoc]; exact wrap_u64_bounds _

set_option maxHeartbeats 400000 in
theorem Hash_any (s : ByteArray) (w : World) (hs : s.size ≤ 1048576) :
    Calls Try.prog 8 #[.string s] w fun e w' => e = .returned (.int .u64 (hashL s.data.toList)) ∧ w = w' := by
  go_enter Try.func8, Try.ntmps8
  go_wp2
  go_loop [3, 4, 7] (fun h _ i => ∃ k : Nat, k ≤ s.size ∧ i = .int .i64 k ∧ h = .int .u64 (hashL (s.data.toList.take k))) (fun _ _ i => s.size - (intOf i).toNat)
  case atStart => exact ⟨0, Nat.zero_le _, rfl, rfl⟩
  case round =>
    obtain ⟨k, hk, rfl, rfl⟩ := hrel
    by_cases hlt : k < s.size
    · go_wp2
      exact ⟨⟨k + 1, by omega, by go_num, val_int (hash_next s k hlt)⟩, by simp [intOf]; omega⟩
    · go_wp2
      go_ret
      exact ⟨ret_int (by rw [List.take_of_length_le (by simp; omega)]), rfl⟩

set_option maxHeartbeats 400000 in
theorem rHash_any (s : ByteArray) (w : World) (hs : s.size ≤ 1048576) :
    Calls Try.prog 9 #[.string s] w fun e w' => e = .returned (.int .u64 (hashL s.data.toList)) ∧ w = w' := by
  go_enter Try.func9, Try.ntmps9
  go_wp2
  go_loop [3, 4] (fun h i => ∃ k : Nat, k ≤ s.size ∧ i = .int .i64 k ∧ h = .int .u64 (hashL (s.data.toList.take k))) (fun _ i => s.size - (intOf i).toNat)
  case atStart => exact ⟨0, Nat.zero_le _, rfl, rfl⟩
  case round =>
    obtain ⟨k, hk, rfl, rfl⟩ := hrel
    by_cases hlt : k < s.size
    · go_wp2
      exact ⟨⟨k + 1, by omega, by go_num, val_int (hash_next s k hlt)⟩, by simp [intOf]; omega⟩
    · go_wp2
      go_ret
      exact ⟨ret_int (by rw [List.take_of_length_le (by simp; omega)]), rfl⟩

/-- A name's shard: the hash modulo the shards, 0 where there are none. -/
def ofL (l : List UInt8) (n : Int) : Int := if n < 1 then 0 else hashL l % n
theorem ofL_bounds (l : List UInt8) (n : Int) (h : 1 ≤ n) : 0 ≤ ofL l n ∧ ofL l n < n := by
  unfold ofL; rw [if_neg (by omega)]
  exact ⟨Int.emod_nonneg _ (by omega), Int.emod_lt_of_pos _ (by omega)⟩

theorem of_eq (l : List UInt8) (n : Int) (h1 : 1 ≤ n) (hn : n ≤ 9223372036854775807) : wrap64 (hashL l % n) = ofL l n := by
  have hb := hashL_bounds l
  have ho := ofL_bounds l n h1
  unfold ofL at *
  rw [if_neg (by omega)] at *
  exact IntWalk.wrap64_in _ ⟨by omega, by omega⟩

set_option maxHeartbeats 400000 in
theorem Of_any (s : ByteArray) (n : Int) (w : World) (hs : s.size ≤ 1048576) (hn : n ≤ 9223372036854775807) :
    Calls Try.prog 10 #[.string s, .int .i64 n] w fun e w' => e = .returned (.int .i64 (ofL s.data.toList n)) ∧ w = w' := by
  by_cases h1 : n < 1
  · have e : ofL s.data.toList n = 0 := by unfold ofL; rw [if_pos h1]
    rw [e]
    clear e
    go_enter Try.func10, Try.ntmps10
    go_wp2
    go_ret
    exact ⟨rfl, rfl⟩
  · have hb := hashL_bounds s.data.toList
    go_enter Try.func10, Try.ntmps10
    go_wp2_with (go_at_call 8; refine (Hash_any _ _ hs).mono ?_; rintro e w' ⟨rfl, rfl⟩)
    go_ret
    exact ⟨ret_int (of_eq _ _ (by omega) hn), rfl⟩

set_option maxHeartbeats 400000 in
theorem rOf_any (s : ByteArray) (n : Int) (w : World) (hs : s.size ≤ 1048576) (hn : n ≤ 9223372036854775807) :
    Calls Try.prog 11 #[.string s, .int .i64 n] w fun e w' => e = .returned (.int .i64 (ofL s.data.toList n)) ∧ w = w' := by
  by_cases h1 : n < 1
  · have e : ofL s.data.toList n = 0 := by unfold ofL; rw [if_pos h1]
    rw [e]
    clear e
    go_enter Try.func11, Try.ntmps11
    go_wp2
    go_ret
    exact ⟨rfl, rfl⟩
  · have hb := hashL_bounds s.data.toList
    go_enter Try.func11, Try.ntmps11
    go_wp2_with (go_at_call 9; refine (rHash_any _ _ hs).mono ?_; rintro e w' ⟨rfl, rfl⟩)
    go_ret
    exact ⟨ret_int (of_eq _ _ (by omega) hn), rfl⟩
end Go.Proofs.Ytimkoepaeebleaa
