/- What a table tells: a name's value. -/
import Derived.Test.YtimkoepaeebleaaShTab2
namespace Go.Proofs.Ytimkoepaeebleaa
open Go.RowKit

def GetPost (w : World) (v : Int) (f : Bool) (e : Ending) (w' : World) : Prop := e = .returned (.tuple #[.int .i64 v, .bool f]) ∧ w' = w
theorem Get_in (w : World) (S R : Nat → Prop) (T : TS) (h : TableAt w S R T) (key : ByteArray) (v : Int) (f : Bool) (hv : v = (mget T.values key).getD 0) (hf : f = (mget T.values key).isSome) :
    Calls Try.prog 22 #[.pointer (some ⟨T.bt, 0, none⟩), .string key] w (GetPost w v f) := by
  have c5 := h.c5
  have hl : (Instr.lookup 57 (.map (some T.vb)) (.string key) true).run Try.prog w = .ok (.tuple #[.int .i64 v, .bool f]) w := by
    have := h.values.look keyK Try.underlying57 (zero_i64 w) key true
    rw [hv, hf]
    cases hm : mget T.values key <;> (rw [hm] at this; exact this)
  clear h hv hf
  go_enter Try.func22, Try.ntmps22
  go_wp2_with fail
  refine bodyPost_ret (v := .tuple #[.int .i64 v, .bool f]) (by simp [results, Try.results22, go_sem, *]) rfl ⟨rfl, rfl⟩

theorem Get_nil (w : World) (key : ByteArray) : Calls Try.prog 22 #[.pointer none, .string key] w (GetPost w 0 false) := by
  go_enter Try.func22, Try.ntmps22
  go_wp2_with fail
  refine bodyPost_ret (v := .tuple #[.int .i64 0, .bool false]) (by simp [results, Try.results22, go_sem, *]) rfl ⟨rfl, rfl⟩
end Go.Proofs.Ytimkoepaeebleaa
