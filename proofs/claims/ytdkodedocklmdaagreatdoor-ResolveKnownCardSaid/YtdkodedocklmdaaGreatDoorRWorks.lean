/- The contracts of kindAt and of works (what the statements ask first). -/
import Derived.Test.YtdkodedocklmdaaGreatDoorRGoes
import Derived.Test.YtdkodedocklmdaaGreatDoorROf
import Derived.Test.YtdkodedocklmdaaGreatDoorPlain
set_option linter.unusedSimpArgs false
set_option linter.unusedVariables false
namespace Go.Proofs.YtdkodedocklmdaaGreatDoor
open Go.RowKit Go.Shelf Go.Maps
open Go.Lib hiding intOf size_eq
/-- the kind at a path -/
def kindL (L : List Ent) (p : List UInt8) : Int := match lookE L p with
  | none => 0
  | some e => e.k
set_option maxRecDepth 100000 in
set_option maxHeartbeats 1000000 in
theorem kind_any {T rt rm tb : Nat} {nd : List Nd} (p : ByteArray) (w : World) (ht : TreeAt w T rt rm tb nd) (hp : p.size < 4611686018427387904) :
    Calls Tryz.prog 45 #[.pointer (some ⟨T, 0, none⟩), .string p] w fun r w' => r = .returned (.int .i64 (kindL (ents nd) p.data.toList)) ∧ Below w.heap.size w w' := by
  have hget := get_any p w ht hp
  clear ht
  have fin : ∀ (w1 : World) (e : Ent), Below w.heap.size w w1 → ∃ w2, w2 = (w1.alloc (.cells #[.string ⟨#[]⟩, .int .i64 0, .int .i64 0, .string ⟨#[]⟩, .string ⟨#[]⟩] 38)).setRow w1.heap.size #[.string e.p, .int .i64 e.k, .int .i64 e.m, .string e.d, .string e.l] ∧
      (w1.alloc (.cells #[.string ⟨#[]⟩, .int .i64 0, .int .i64 0, .string ⟨#[]⟩, .string ⟨#[]⟩] 38)).heap[w1.heap.size]? = some (.cells #[.string ⟨#[]⟩, .int .i64 0, .int .i64 0, .string ⟨#[]⟩, .string ⟨#[]⟩] 38 (0, 0)) ∧
      w2.cell? ⟨w1.heap.size, 1, none⟩ = some (.int .i64 e.k) ∧ Below w.heap.size w w2 := by
    intro w1 e h1
    have hb0 := World.alloc_heap_new w1 (.cells #[.string ⟨#[]⟩, .int .i64 0, .int .i64 0, .string ⟨#[]⟩, .string ⟨#[]⟩] 38)
    have hb := h1.alloc h1.size (.cells #[.string ⟨#[]⟩, .int .i64 0, .int .i64 0, .string ⟨#[]⟩, .string ⟨#[]⟩] 38)
    have hrow := setRow_at (cs := #[.string e.p, .int .i64 e.k, .int .i64 e.m, .string e.d, .string e.l]) hb0
    refine ⟨_, rfl, hb0, ?_, ⟨hb.os, hb.tape, hb.output, by simpa using hb.size, fun j hj => (setRow_other _ w1.heap.size j _ (by have := h1.size; omega)).trans (hb.block j hj)⟩⟩
    unfold World.cell?
    rw [hrow]
    rfl
  have Fin := Lib.hid fin
  clear fin
  unfold kindL
  cases hq : lookE (ents nd) p.data.toList with
  | none =>
    obtain ⟨e, he⟩ : ∃ e : Ent, e = ⟨emp, 0, 0, emp, emp⟩ := ⟨_, rfl⟩
    have hget2 : Calls Tryz.prog 24 #[.pointer (some ⟨T, 0, none⟩), .string p] w fun r w' => r = .returned (.tuple #[.agg #[.string e.p, .int .i64 e.k, .int .i64 e.m, .string e.d, .string e.l], .bool false]) ∧ Below w.heap.size w w' := by rw [hq] at hget; rw [he]; exact hget
    have Hget := Lib.hid hget2
    clear hget hget2 he hq
    go_enter Tryz.func45, Tryz.ntmps45
    go_wp2_with (first
      | (go_at_call 24; refine Hget.out.mono ?_; rintro r w1 ⟨rfl, hb1⟩
         obtain ⟨w2, hw2, hz, x1, hb2⟩ := Fin.out w1 e hb1
         have Hz := Lib.hid hz
         have Hw2 := Lib.hid hw2
         have HB := Lib.hid hb2
         clear hb1 hw2 hz hb2)
      | (refine wpList_store_row rfl _ _ _ rfl w1.heap.size #[.string e.p, .int .i64 e.k, .int .i64 e.m, .string e.d, .string e.l] rfl rfl 38 _ Hz.out (by kernel_rfl) rfl (by kernel_rfl) ?_; rw [← Hw2.out]))
    go_ret
    exact ⟨rfl, HB.out⟩
  | some e =>
    have hget2 : Calls Tryz.prog 24 #[.pointer (some ⟨T, 0, none⟩), .string p] w fun r w' => r = .returned (.tuple #[.agg #[.string e.p, .int .i64 e.k, .int .i64 e.m, .string e.d, .string e.l], .bool true]) ∧ Below w.heap.size w w' := by rw [hq] at hget; exact hget
    have Hget := Lib.hid hget2
    clear hget hget2 hq
    go_enter Tryz.func45, Tryz.ntmps45
    go_wp2_with (first
      | (go_at_call 24; refine Hget.out.mono ?_; rintro r w1 ⟨rfl, hb1⟩
         obtain ⟨w2, hw2, hz, x1, hb2⟩ := Fin.out w1 e hb1
         have Hz := Lib.hid hz
         have Hw2 := Lib.hid hw2
         have HB := Lib.hid hb2
         clear hb1 hw2 hz hb2)
      | (refine wpList_store_row rfl _ _ _ rfl w1.heap.size #[.string e.p, .int .i64 e.k, .int .i64 e.m, .string e.d, .string e.l] rfl rfl 38 _ Hz.out (by kernel_rfl) rfl (by kernel_rfl) ?_; rw [← Hw2.out]))
    go_ret
    exact ⟨rfl, HB.out⟩
/- works -/
def wE1 : Ent := ⟨⟨#[97]⟩, 2, 420, ⟨#[]⟩, ⟨#[]⟩⟩
def wE2 : Ent := ⟨⟨#[108]⟩, 3, 511, ⟨#[]⟩, ⟨#[97]⟩⟩
theorem wCheck : checkL [wE1, wE2] = (0, 0) := by kernel_rfl
theorem wWay1 : wayF [wE1, wE2] false [108] = .ok ([97], [[], [], [97]]) := by kernel_rfl
theorem wWay2 : wayF [wE1, wE2] true [108] = .ok ([108], [[], [108]]) := by kernel_rfl
theorem wWay3 : wayF [wE1, wE2] false [120] = .error 10 := by kernel_rfl
theorem wEnts (w : World) : EntsAt (w.alloc (.cells #[.string ⟨#[97]⟩, .int .i64 2, .int .i64 420, .string ⟨#[]⟩, .string ⟨#[]⟩, .string ⟨#[108]⟩, .int .i64 3, .int .i64 511, .string ⟨#[]⟩, .string ⟨#[97]⟩] 38)) (.slice (some ⟨w.heap.size, 0, none⟩) 2 2) [wE1, wE2] := by
  refine ents_of_row (base := 0) ⟨rfl, .inr ⟨w.heap.size, 2, _, rfl, Nat.zero_le _, World.alloc_heap_new w _, Nat.le_refl _, by unfold maxLen; omega, rfl, rfl⟩⟩
set_option maxRecDepth 100000 in
set_option maxHeartbeats 4000000 in
theorem works_any (w : World) (hg : Handle w) : Calls Tryz.prog 33 #[] w fun e w' => e = .returned (.bool true) ∧ Below w.heap.size w w' := by
  have hof := tof_any _ [wE1, wE2] _ (wEnts w) (fun e he => by
    rcases List.mem_cons.1 he with rfl | he
    · exact ⟨by decide, by decide, by decide⟩
    · rw [List.mem_singleton.1 he]; exact ⟨by decide, by decide, by decide⟩)
  have Hof := Lib.hid hof
  have Hg := Lib.hid hg
  clear hof hg
  go_enter Tryz.func33, Tryz.ntmps33
  go_upto_region 4 with (first
    | (go_at_call 27; refine Hof.out.mono ?_; rintro r w1 ⟨h1, _, hb⟩; obtain ⟨T, rt, rm, nd, rfl, ht, he⟩ := h1 (by rw [wCheck])
       have hb2 : Below w.heap.size w w1 := ((Below.refl _ _).alloc (Nat.le_refl _) _).trans (hb.mono (by simp))
       have hg1 := (Hg.out.alloc _).below hb (Nat.le_refl _)
       have HT := Lib.hid (ht.lower (Nat.zero_le _))
       have He := Lib.hid he
       have HB := Lib.hid hb2
       have HG := Lib.hid hg1
       clear h1 hb ht he hb2 hg1))
  have f1 := fun W (hW : TreeAt W T rt rm 0 nd) => find_way ⟨#[108]⟩ true W hW (by decide)
  have f2 := fun W (hW : TreeAt W T rt rm 0 nd) => find_way ⟨#[108]⟩ false W hW (by decide)
  have f3 := fun W (hW : TreeAt W T rt rm 0 nd) => find_way ⟨#[120]⟩ true W hW (by decide)
  unfold FindR at f1 f2 f3
  rw [He.out] at f1 f2 f3
  rw [show (⟨#[108]⟩ : ByteArray).data.toList = [108] from rfl, show (!true) = false from rfl, wWay1] at f1
  rw [show (⟨#[108]⟩ : ByteArray).data.toList = [108] from rfl, show (!false) = true from rfl, wWay2] at f2
  rw [show (⟨#[120]⟩ : ByteArray).data.toList = [120] from rfl, show (!true) = false from rfl, wWay3] at f3
  have F1 := Lib.hid f1
  have F2 := Lib.hid f2
  have F3 := Lib.hid f3
  clear f1 f2 f3
  go_wp2_with (first
    | (go_at_call 35; refine (F1.out _ HT.out).mono ?_; rintro r w2 ⟨hb, rfl⟩
       have HT2 := Lib.hid (HT.out.below hb (Nat.le_refl _))
       have HB2 := Lib.hid (HB.out.trans (hb.mono HB.out.size))
       have HG2 := Lib.hid (HG.out.below hb (Nat.le_refl _))
       rw [show (bs [97]) = ⟨#[97]⟩ from rfl]
       clear hb HT HB HG F1)
    | (go_at_call 35; refine (F2.out _ HT2.out).mono ?_; rintro r w3 ⟨hb, rfl⟩
       have HT3 := Lib.hid (HT2.out.below hb (Nat.le_refl _))
       have HB3 := Lib.hid (HB2.out.trans (hb.mono HB2.out.size))
       have HG3 := Lib.hid (HG2.out.below hb (Nat.le_refl _))
       rw [show (bs [108]) = ⟨#[108]⟩ from rfl]
       clear hb HT2 HB2 HG2 F2)
    | (go_at_call 35; refine (F3.out _ HT3.out).mono ?_; rintro r w4 ⟨hb, rfl⟩
       have HB4 := Lib.hid (HB3.out.trans (hb.mono HB3.out.size))
       have HG4 := Lib.hid (HG3.out.below hb (Nat.le_refl _))
       rw [show errV 10 = .iface 105 (.int .i64 10) from rfl]
       clear hb HT3 HB3 HG3 F3)
    | (go_at_call 36; refine (plain_any 10 10 _ (by decide) HG4.out).mono ?_; rintro r w5 ⟨rfl, hb⟩
       have HB5 := Lib.hid (HB4.out.trans (hb.mono HB4.out.size))
       rw [show decide (((10 : Nat) : Int) = 10) = true from rfl]
       clear hb HB4))
  go_ret
  exact ⟨rfl, HB5.out⟩
end Go.Proofs.YtdkodedocklmdaaGreatDoor
