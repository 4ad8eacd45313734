/- The contracts of resolve.Find and resolve.Trail. -/
import Derived.Test.YtdkodedocklmdaaGreatDoorRRun
set_option linter.unusedSimpArgs false
set_option linter.unusedVariables false
namespace Go.Proofs.YtdkodedocklmdaaGreatDoor
open Go.RowKit Go.Shelf Go.Maps
open Go.Lib hiding intOf size_eq
/-- what Find answers -/
def FindR (w : World) (L : List Ent) (keep : Bool) (way : List UInt8) (r : Ending) (w' : World) : Prop :=
  Below w.heap.size w w' ∧ match wayF L keep way with
    | .error n => r = .returned (.tuple #[.string ⟨#[]⟩, errV n])
    | .ok (p, _) => r = .returned (.tuple #[.string (bs p), .nilIface])
/-- what Trail answers -/
def TrailR (w : World) (L : List Ent) (way : List UInt8) (r : Ending) (w' : World) : Prop :=
  Below w.heap.size w w' ∧ match wayF L false way with
    | .error n => r = .returned (.tuple #[.slice none 0 0, errV n])
    | .ok (_, t) => ∃ v, r = .returned (.tuple #[v, .nilIface]) ∧ Texts w' w.heap.size v t
theorem pieces_count (s : ByteArray) : (pieces s.data.toList).length ≤ s.size + 1 := by
  have h1 := weight_length (pieces s.data.toList)
  have h2 := weight_pieces s.data.toList
  rw [← Lib.size_eq] at h2
  omega
theorem wayF_err {L : List Ent} {keep : Bool} {way : List UInt8} {n : Nat} (h : wayF L keep way = .error n) : n ≠ 0 := by
  have := runF_errs _ _ _ _ _ _ h
  omega
/-- a walk begins -/
theorem walk_start {w w1 : World} {T rt rm tb cap : Nat} {nd : List Nd} {keep : Bool} {sv : Value} {F : List Nat} {o : Option Addr} (s : ByteArray) (ht : TreeAt w T rt rm tb nd) (hs : s.size ≤ 4294967296) (hla : LeftA w1 o cap (pieces s.data.toList)) (hb : Below w.heap.size w w1)
    (hst : StepAt w1 w.heap.size sv [[]] F) (hoF : OutOf F o) : RunI w w.heap.size w1.heap.size T rt rm tb nd keep sv (wayF (ents nd) keep s.data.toList) (w1.alloc (walkObj T ⟨#[]⟩ (.slice o (pieces s.data.toList).length cap) (0 : Nat) keep sv)) := by
  refine ⟨[], pieces s.data.toList, 0, [[]], F, o, cap, ⟨?_, ?_, ?_, ?_, ?_, hb.size, hb.alloc hb.size _, Nat.le_refl _, (ht.below hb (Nat.le_refl _)).alloc _, fun b hx => ht.lt hx⟩, by simp, fun c hc => ?_, by omega, ?_, rfl⟩
  · exact World.alloc_heap_new w1 _
  · exact hla.but ((But.refl F w1).alloc _) hoF
  · intro a ha hx
    rcases List.mem_cons.1 hx with hx | hx
    · have := hla.lt a ha
      omega
    · exact hoF a ha hx
  · intro hx
    have := hst.lt _ hx
    omega
  · exact hst.but ((But.refl [] w1).alloc _) (fun k _ hx => by cases hx)
  · have h1 := pieces_long hc
    have : s.data.toList.length = s.size := rfl
    omega
  · have := pieces_count s
    unfold needF
    simp
    omega
set_option maxRecDepth 100000 in
set_option maxHeartbeats 4000000 in
theorem find_way {T rt rm tb : Nat} {nd : List Nd} (s : ByteArray) (last : Bool) (w : World) (ht : TreeAt w T rt rm tb nd) (hs : s.size ≤ 4294967296) :
    Calls Tryz.prog 35 #[.pointer (some ⟨T, 0, none⟩), .string s, .bool last] w fun r w' => FindR w (ents nd) (!last) s.data.toList r w' := by
  have Hp := Lib.hid (pieces_any s w (by omega))
  have Ht := Lib.hid ht
  have Hs := Lib.hid hs
  obtain ⟨n, hn⟩ : ∃ n, n = (pieces s.data.toList).length := ⟨_, rfl⟩
  have Hn := Lib.hid hn
  obtain ⟨keep, hk⟩ : ∃ k, k = !last := ⟨_, rfl⟩
  rw [← hk]
  have Hk := Lib.hid hk
  clear ht hs hn hk
  go_enter Tryz.func35, Tryz.ntmps35
  go_upto_region 2 with (first
    | (go_at_call 76; refine Hp.out.mono ?_; rintro r w1 ⟨v, rfl, htx, hb⟩; obtain ⟨o, cap, rfl, hla, hlo⟩ := left_of_texts htx; rw [← Hn.out]
       have hst := walk_start (keep := keep) (sv := .nilFunc) (F := []) s Ht.out Hs.out hla hb (.inl ⟨rfl, rfl⟩) (fun _ _ hx => by cases hx)
       rw [← Hn.out] at hst
       have Hst := Lib.hid hst
       have HB := Lib.hid hb
       clear htx hb hla hlo hst))
  rw [← Hk.out]
  have hrun := run_any _ Ht.out.good Hst.out
  have Hrun := Lib.hid hrun
  clear hrun
  cases hw : wayF (ents nd) keep s.data.toList with
  | error m =>
    rw [hw] at Hrun
    have He := Lib.hid (errV_pos (wayF_err hw))
    have Hw := Lib.hid hw
    clear hw
    go_wp2_with (go_at_call 78; refine Hrun.out.mono ?_; rintro r w2 ⟨hb, hr⟩; simp only [] at hr; rw [He.out] at hr; subst hr
                 have HB2 := Lib.hid hb
                 clear hb)
    go_ret2
    refine ⟨HB2.out, ?_⟩
    rw [Hw.out]
    show _ = Ending.returned (.tuple #[.string ⟨#[]⟩, errV m])
    rw [He.out]
    rfl
  | ok z =>
    obtain ⟨p, t⟩ := z
    rw [hw] at Hrun
    have Hw := Lib.hid hw
    clear hw
    go_wp2_with (go_at_call 78; refine Hrun.out.mono ?_; rintro r w2 ⟨hb, hr⟩; obtain ⟨rfl, _⟩ := hr
                 have HB2 := Lib.hid hb
                 clear hb)
    go_ret2
    refine ⟨HB2.out, ?_⟩
    rw [Hw.out]
    rfl
set_option maxRecDepth 100000 in
set_option maxHeartbeats 4000000 in
theorem trail_way {T rt rm tb : Nat} {nd : List Nd} (s : ByteArray) (w : World) (ht : TreeAt w T rt rm tb nd) (hs : s.size ≤ 4294967296) :
    Calls Tryz.prog 38 #[.pointer (some ⟨T, 0, none⟩), .string s] w fun r w' => TrailR w (ents nd) s.data.toList r w' := by
  obtain ⟨w2, hw2⟩ : ∃ x, x = (w.alloc (.cells #[.string ⟨#[]⟩] 9)).alloc (.cells #[.slice (some ⟨w.heap.size, 0, none⟩) 1 1] 70) := ⟨_, rfl⟩
  have hs2 : w2.heap.size = w.heap.size + 2 := by rw [hw2]; simp
  have hb2 : Below w.heap.size w w2 := by rw [hw2]; exact ((Below.refl _ _).alloc (Nat.le_refl _) _).alloc (by simp) _
  have hbox : Boxed w2 (w.heap.size + 1) 70 (.slice (some ⟨w.heap.size, 0, none⟩) 1 1) := by
    have h := Boxed.new (w.alloc (.cells #[.string ⟨#[]⟩] 9)) 70 (.slice (some ⟨w.heap.size, 0, none⟩) 1 1)
    rw [World.size_alloc] at h
    rw [hw2]
    exact h
  have hrow : Texts w2 w.heap.size (.slice (some ⟨w.heap.size, 0, none⟩) 1 1) [[]] := by
    refine ⟨rfl, .inr ⟨w.heap.size, 1, #[.string ⟨#[]⟩], rfl, Nat.le_refl _, ?_, Nat.le_refl _, by unfold maxLen; omega, rfl, rfl⟩⟩
    rw [hw2, heap_alloc_old _ _ (by simp)]
    exact World.alloc_heap_new w _
  have hlt2 := hbox.lt
  have Hp := Lib.hid (pieces_any s w2 (by omega))
  have Ht := Lib.hid ht
  have Hs := Lib.hid hs
  have Hw2 := Lib.hid hw2
  have HB2 := Lib.hid hb2
  have Hbox := Lib.hid hbox
  have Hrow := Lib.hid hrow
  obtain ⟨n, hn⟩ : ∃ n, n = (pieces s.data.toList).length := ⟨_, rfl⟩
  have Hn := Lib.hid hn
  clear ht hs hn hw2 hb2 hbox hrow
  go_enter Tryz.func38, Tryz.ntmps38
  go_upto_region 2 with fail
  rw [← Hw2.out]
  go_upto_region 3 with (first
    | (go_at_call 76; refine Hp.out.mono ?_; rintro r w3 ⟨v, rfl, htx, hb⟩; obtain ⟨o, cap, rfl, hla, hlo⟩ := left_of_texts htx; rw [← Hn.out]
       have hst2 : StepAt w2 w.heap.size (.func (.func 80) #[] #[.pointer (some ⟨w.heap.size + 1, 0, none⟩)]) [[]] [w.heap.size + 1, w.heap.size] := .inr ⟨w.heap.size + 1, _, rfl, Hbox.out, Hrow.out, by omega, rfl⟩
       have hst3 := hst2.but ((But.refl [] w2).below hb) (fun k _ hx => by cases hx)
       have hst := walk_start (keep := false) s Ht.out Hs.out hla (HB2.out.trans (hb.mono HB2.out.size)) hst3 (fun a ha hx => by have h1 := hlo a ha; have h2 := hst2.lt _ hx; omega)
       rw [← Hn.out] at hst
       have Hst := Lib.hid hst
       clear htx hb hla hlo hst hst2 hst3))
  have hrun := run_any _ Ht.out.good Hst.out
  have Hrun := Lib.hid hrun
  clear hrun
  cases hw : wayF (ents nd) false s.data.toList with
  | error m =>
    rw [hw] at Hrun
    have He := Lib.hid (errV_pos (wayF_err hw))
    have Hw := Lib.hid hw
    clear hw
    go_wp2_with (go_at_call 78; refine Hrun.out.mono ?_; rintro r w4 ⟨hb, hr⟩; simp only [] at hr; rw [He.out] at hr; subst hr
                 have HB3 := Lib.hid hb
                 clear hb)
    go_ret2
    refine ⟨HB3.out, ?_⟩
    rw [Hw.out]
    show _ = Ending.returned (.tuple #[.slice none 0 0, errV m])
    rw [He.out]
    rfl
  | ok z =>
    obtain ⟨p, t⟩ := z
    rw [hw] at Hrun
    have Hw := Lib.hid hw
    clear hw
    go_wp2_with (go_at_call 78; refine Hrun.out.mono ?_; rintro r w4 ⟨hb, hr⟩; obtain ⟨rfl, F, hst⟩ := hr; obtain ⟨B, v, e, hbx, htx, _, _⟩ := hst.resolve_left (fun h => by cases h.1); injection e with _ _ e; injection e with e; injection e with e _; injection e with e; injection e with e; injection e with e; subst e
                 have hc4 := hbx.cell
                 have HB3 := Lib.hid hb
                 have Htx := Lib.hid htx
                 clear hb hst hbx htx)
    go_ret2
    refine ⟨HB3.out, ?_⟩
    rw [Hw.out]
    exact ⟨v, rfl, Htx.out⟩
end Go.Proofs.YtdkodedocklmdaaGreatDoor
