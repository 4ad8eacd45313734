/- flate.Inflate's deferred closure: what it does with an error that was given up with, and with none. -/
import Derived.Test.YtjielagabnkimaaDoorFSrc
import Derived.Recover
import Derived.Defers
import Derived.Stop.Asserts
set_option linter.unusedSimpArgs false
set_option linter.unusedVariables false
namespace Go.Proofs.YtjielagabnkimaaDoor
open Go.RowKit

theorem catch_idle (T K E : Nat) (w : World) :
    CallsD Tryd.prog 33 #[.pointer (some ⟨T, 0, none⟩), .pointer (some ⟨K, 0, none⟩), .pointer (some ⟨E, 0, none⟩)] .returning w fun e u' w' => e = .returned (.tuple #[]) ∧ u' = .returning ∧ w' = w := by
  have hnil : ∀ w : World, (binOp BinOp.eql 20 .nilIface .nilIface).run Tryd.prog w = .ok (.bool true) w := fun _ => by kernel_rfl
  refine callsD_of_wpS Tryd.func33 rfl fun c₀ cs hu => ?_
  apply wpS_seq
  apply wpS_region
  simp [wpOpsS, go_sem, recoverD, hu, Tryd.ntmps33, Exit.thenS]
  refine wpS_of_wp ?_
  go_wp2
  cases c₀
  simp_all [bodyPostS, results, Tryd.results33]

set_option maxRecDepth 100000 in
set_option maxHeartbeats 2000000 in
theorem catch_stop (no : Int) (T K E : Nat) (w : World) {vT vK vE : Value} (hT : Boxed w T 9 vT) (hK : Boxed w K 3 vK) (hE : Boxed w E 30 vE) (hTK : T < K) (hKE : K < E) :
    CallsD Tryd.prog 33 #[.pointer (some ⟨T, 0, none⟩), .pointer (some ⟨K, 0, none⟩), .pointer (some ⟨E, 0, none⟩)] (.panicking (stopC no)) w fun e u' w' => e = .returned (.tuple #[]) ∧ u' = .panicking [{ v := stopV no, recovered := true }] ∧ Boxed w' T 9 (.string ⟨#[]⟩) ∧ Boxed w' K 3 (.int .i64 0) ∧ Boxed w' E 30 (.iface 55 (.int .i64 no)) ∧ Below T w w' := by
  have hne : ∀ (v : Value) (w : World), (binOp BinOp.eql 20 (.iface 57 v) .nilIface).run Tryd.prog w = .ok (.bool false) w := fun _ _ => by kernel_rfl
  have hta : ∀ (v : Value) (w : World), (Instr.typeAssert (.iface 57 v) 20 57 true).run Tryd.prog w = .ok (.tuple #[v, .bool true]) w := fun _ _ => by kernel_rfl
  have hTKn : T ≠ K := by omega
  have hTEn : T ≠ E := by omega
  have hKEn : K ≠ E := by omega
  have c1 := hT.cell
  have f1 := hT.frozen
  have c2 := hK.cell
  have f2 := hK.frozen
  have c3 := hE.cell
  have f3 := hE.frozen
  have l1 := hT.lt
  have l2 := hK.lt
  have l3 := hE.lt
  have HT := Lib.hid hT
  have HK := Lib.hid hK
  have HE := Lib.hid hE
  clear hT hK hE
  refine callsD_of_wpS Tryd.func33 rfl fun c₀ cs hu => ?_
  unfold stopC stopV at hu
  apply wpS_seq
  apply wpS_region
  simp [wpOpsS, go_sem, recoverD, hu, Tryd.ntmps33, Exit.thenS]
  refine wpS_of_wp ?_
  go_wp2
  go_region
  all_goals
    go_wp2
    refine ⟨rfl, _, rfl, _, results_none rfl _ _ _, rfl, rfl, (((HT.out.set _).other hTKn _).other hTEn _).alloc _, (((HK.out.other (Ne.symm hTKn) _).set _).other hKEn _).alloc _, (((HE.out.other (Ne.symm hTEn) _).other (Ne.symm hKEn) _).set _).alloc _, ?_⟩
    exact below_drew (((((Below.refl T w).setCell (p := ⟨T, 0, none⟩) (Nat.le_refl _) _).setCell (p := ⟨K, 0, none⟩) (by show T ≤ K; omega) _).setCell (p := ⟨E, 0, none⟩) (by show T ≤ E; omega) _).alloc (by simp [World.setCell]; omega) _)
end Go.Proofs.YtjielagabnkimaaDoor
