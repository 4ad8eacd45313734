/- The walk of ResolveInside. -/
import Derived.Test.YtdkodedocklmdaaGreatDoorRWorks
set_option linter.unusedSimpArgs false
set_option linter.unusedVariables false
namespace Go.Proofs.YtdkodedocklmdaaGreatDoor
open Go.RowKit Go.Shelf Go.Maps
open Go.Lib hiding intOf size_eq
theorem find_as {T rt rm : Nat} {nd : List Nd} (s : ByteArray) (last : Bool) (w : World) (ht : TreeAt w T rt rm 0 nd) (hs : s.size ≤ 4294967296) {p : List UInt8} {t : List (List UInt8)} (h : wayF (ents nd) (!last) s.data.toList = .ok (p, t)) :
    Calls Tryz.prog 35 #[.pointer (some ⟨T, 0, none⟩), .string s, .bool last] w fun r w' => Below w.heap.size w w' ∧ r = .returned (.tuple #[.string (bs p), .nilIface]) := by
  refine (find_way s last w ht hs).mono fun r w' hr => ?_
  unfold FindR at hr
  rw [h] at hr
  exact hr
theorem find_err {T rt rm : Nat} {nd : List Nd} (s : ByteArray) (last : Bool) (w : World) (ht : TreeAt w T rt rm 0 nd) (hs : s.size ≤ 4294967296) {n : Nat} (h : wayF (ents nd) (!last) s.data.toList = .error n) :
    Calls Tryz.prog 35 #[.pointer (some ⟨T, 0, none⟩), .string s, .bool last] w fun r w' => Below w.heap.size w w' ∧ r = .returned (.tuple #[.string ⟨#[]⟩, errV n]) := by
  refine (find_way s last w ht hs).mono fun r w' hr => ?_
  unfold FindR at hr
  rw [h] at hr
  exact hr
theorem find_some {T rt rm : Nat} {nd : List Nd} (s : ByteArray) (last : Bool) (w : World) (ht : TreeAt w T rt rm 0 nd) (hs : s.size ≤ 4294967296) :
    Calls Tryz.prog 35 #[.pointer (some ⟨T, 0, none⟩), .string s, .bool last] w fun r w' => Below w.heap.size w w' ∧ ∃ x f, r = .returned (.tuple #[.string x, f]) := by
  refine (find_way s last w ht hs).mono fun r w' hr => ?_
  unfold FindR at hr
  cases h : wayF (ents nd) (!last) s.data.toList with
  | error n => rw [h] at hr; exact ⟨hr.1, _, _, hr.2⟩
  | ok z => rw [h] at hr; exact ⟨hr.1, _, _, hr.2⟩
theorem kind_as {T rt rm : Nat} {nd : List Nd} (p : ByteArray) (w : World) (ht : TreeAt w T rt rm 0 nd) (hp : p.size < 4611686018427387904) :
    Calls Tryz.prog 45 #[.pointer (some ⟨T, 0, none⟩), .string p] w fun r w' => Below w.heap.size w w' ∧ r = .returned (.int .i64 (kindL (ents nd) p.data.toList)) :=
  (kind_any p w ht hp).mono fun _ _ h => ⟨h.2, h.1⟩
theorem check_good {L : List Ent} {w : World} {T rt rm : Nat} {nd : List Nd} (ht : TreeAt w T rt rm 0 nd) (he : ents nd = L) : Good L := he ▸ ht.good
theorem wayF_errs {L : List Ent} {keep : Bool} {way : List UInt8} {n : Nat} (h : wayF L keep way = .error n) : n = 10 ∨ n = 13 ∨ n = 12 := runF_errs _ _ _ _ _ _ h
theorem wayF_inside {L : List Ent} (hL : Good L) {keep : Bool} {way p : List UInt8} {t : List (List UInt8)} (h : wayF L keep way = .ok (p, t)) : p = [] ∨ ∃ e, lookE L p = some e ∧ (e.k = 1 ∨ e.k = 2 ∨ (keep = true ∧ e.k = 3)) := runF_inside hL _ _ _ _ _ _ _ (.inl rfl) h
theorem kind_root {L : List Ent} (hL : Good L) : kindL L [] = 0 := by
  unfold kindL
  cases h : lookE L [] with
  | none => rfl
  | some e => exact absurd rfl (good_neat hL h).ne
end Go.Proofs.YtdkodedocklmdaaGreatDoor
