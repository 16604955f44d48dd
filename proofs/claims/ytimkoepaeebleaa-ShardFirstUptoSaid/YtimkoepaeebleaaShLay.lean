/- The library's contracts for maps.Keys and maps.Clone, laid at this dump. -/
import Derived.Test.YtimkoepaeebleaaKit
import Derived.Shelf.SlIter.NilStops
import Derived.Shelf.SlMaps.Clone
import Derived.StringKeys
namespace Go.Proofs.Ytimkoepaeebleaa
open Go.RowKit Go.Maps Go.Shelf

def keysL_ren : Ren := ⟨fun | 7 => 48 | 10 => 60 | n => n, fun | 23 => 57 | 26 => 9 | 3 => 2 | 28 => 101 | 0 => 0 | 27 => 100 | 33 => 122 | 4 => 4 | n => n, fun | n => n⟩
theorem keysL : SlLaysZ.n7 Try.prog keysL_ren := {
  mixed := by kernel_rfl
  f7 := ⟨Try.f48.name, by decide, Try.func48.trans (congrArg some (by kernel_rfl))⟩
  f10 := ⟨Try.f60.name, by decide, Try.func60.trans (congrArg some (by kernel_rfl))⟩
  t0 := Try.underlying0
  a0 := Try.isAgg0
  z0 := Try.sizeOf0
  v0 := Try.zeroValue0
  t4 := Try.underlying4
  a4 := Try.isAgg4
  z4 := Try.sizeOf4
  v4 := Try.zeroValue4
  t23 := Try.underlying57
  a23 := Try.isAgg57
  z23 := Try.sizeOf57
  v23 := Try.zeroValue57
  t26 := Try.underlying9
  a26 := Try.isAgg9
  z26 := Try.sizeOf9
  v26 := Try.zeroValue9
  t27 := Try.underlying100
  a27 := Try.isAgg100
  z27 := Try.sizeOf100
  v27 := Try.zeroValue100
  t28 := Try.underlying101
  a28 := Try.isAgg101
  z28 := Try.sizeOf101
  v28 := Try.zeroValue101
  t33 := Try.underlying122
  a33 := Try.isAgg122
  z33 := Try.sizeOf122
  v33 := Try.zeroValue122 }
def cloneL_ren : Ren := ⟨fun | 5 => 47 | 7 => 59 | n => n, fun | 23 => 57 | 25 => 9 | 3 => 2 | 4 => 4 | 20 => 20 | n => n, fun | n => n⟩
theorem cloneL : SlLaysW.n5 Try.prog cloneL_ren := {
  mixed := by kernel_rfl
  f5 := ⟨Try.f47.name, by decide, Try.func47.trans (congrArg some (by kernel_rfl))⟩
  f7 := Try.func59.trans (congrArg some (by kernel_rfl))
  t4 := Try.underlying4
  a4 := Try.isAgg4
  z4 := Try.sizeOf4
  v4 := Try.zeroValue4
  t20 := Try.underlying20
  a20 := Try.isAgg20
  z20 := Try.sizeOf20
  v20 := Try.zeroValue20
  t23 := Try.underlying57
  a23 := Try.isAgg57
  z23 := Try.sizeOf57
  v23 := Try.zeroValue57 }

/-- A map of strings to numbers, in the words of the library's laws: which keys it has. -/
theorem own_of_mapAt {β : Type} {w : World} {b : Nat} {ev : β → Value} {M : List (ByteArray × β)} (h : MapAt w b (fun s : ByteArray => Value.string s) ev M) (hk : ∀ p ∈ M, p.1.size ≤ maxLen) (hl : M.length ≤ maxLen) :
    ∃ D0 : DataW Unit, w.ownsMap Try.prog 9 (fun _ => some (.nil, [])) b M.length D0 ∧ (strKeys D0).Perm (M.map (fun p => p.1.data.toList)) ∧ Maps.size D0 = M.length := by
  obtain ⟨es, clock, hb, hes, hA, hborn, hnd⟩ := h
  have hlen : es.size = M.length := by
    have := congrArg List.length hes
    simpa using this
  have hkeys : es.toList.map (·.key) = M.map (fun p => Value.string p.1) := by
    have := congrArg (List.map Prod.fst) hes
    simpa [List.map_map, Function.comp_def] using this
  have hkn : (es.toList.map (·.key)).Nodup := by
    rw [hkeys]
    have := (apart_iff M).1 hA
    rw [show M.map (fun p => Value.string p.1) = (M.map (·.1)).map Value.string by rw [List.map_map]; rfl]
    exact List.Pairwise.map _ (fun x y hne e => hne (by injection e)) this
  have hrd : ∀ x ∈ es.toList, ∃ s : ByteArray, x.key = .string s ∧ (∃ p ∈ M, p.1 = s) ∧ Go.WideElems.rd Try.prog 9 (fun _ => some ((.nil : DataW Unit), [])) x = some (.string s.data.toList, .nil) := fun x hx => by
    have : x.key ∈ es.toList.map (·.key) := List.mem_map.2 ⟨x, hx, rfl⟩
    rw [hkeys] at this
    obtain ⟨p, hp, e⟩ := List.mem_map.1 this
    refine ⟨p.1, e.symm, ⟨p, hp, rfl⟩, ?_⟩
    have hs := hk p hp
    have hko : keyOf Try.prog 9 (.string p.1) = some (.string p.1.data.toList) := Go.WideMaps.keyOf_string_mk Try.underlying9 hs
    have := Go.WideElems.rd_mk (H := Unit) (P := Try.prog) (k := 9) (R := fun _ => some ((.nil : DataW Unit), [])) (born := x.born) (val := x.val) hko rfl
    rw [show x = ⟨.string p.1, x.val, x.born⟩ by cases x; simp at e; subst e; rfl]
    exact this
  refine ⟨_, ⟨es, clock, hb, ⟨by omega, ⟨hborn, hnd, hkn⟩, fun x hx => ?_⟩, by omega, rfl⟩, ?_, ?_⟩
  · obtain ⟨s, _, _, h⟩ := hrd x hx
    exact ⟨_, h⟩
  · have hp := WideShapes.sorted_perm (es.toList.map (Go.WideElems.rg Try.prog 9 (fun _ => some ((.nil : DataW Unit), []))))
    refine (hp.map (fun p => strOf p.1)).trans (List.Perm.of_eq ?_)
    rw [List.map_map]
    have e : es.toList.map ((fun p => strOf p.1) ∘ Go.WideElems.rg Try.prog 9 (fun _ => some ((.nil : DataW Unit), []))) = (es.toList.map (·.key)).map (fun v => match v with | .string s => s.data.toList | _ => []) := by
      rw [List.map_map]
      refine List.map_congr_left fun x hx => ?_
      obtain ⟨s, h1, _, h2⟩ := hrd x hx
      simp [Go.WideElems.rg_of h2, h1, strOf]
    rw [e, hkeys, List.map_map]
    rfl
  · show List.length _ = _
    rw [(WideShapes.sorted_perm _).length_eq]
    simp [hlen]
end Go.Proofs.Ytimkoepaeebleaa
