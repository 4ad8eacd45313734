/- The contracts of a walk's told and of the trail's step. -/
import Derived.Test.YtdkodedocklmdaaGreatDoorRWalk
import Derived.Test.YtdkodedocklmdaaGreatDoorRStep
set_option linter.unusedSimpArgs false
set_option linter.unusedVariables false
namespace Go.Proofs.YtdkodedocklmdaaGreatDoor
open Go.RowKit Go.Shelf Go.Maps
open Go.Lib hiding intOf size_eq
theorem own_list {v v' : Value} {n : Nat} (h : v'.ownBlock = v.ownBlock ∨ v'.ownBlock = some n) {k : Nat} (hk : k ∈ v'.ownBlock.toList) : k ∈ v.ownBlock.toList ∨ k = n := by
  rcases h with h | h
  · exact .inl (by rw [← h]; exact hk)
  · rw [h] at hk
    exact .inr (by simpa using hk)
theorem neq_nilFunc (w : World) : (binOp .neq 121 .nilFunc .nilFunc).run Tryz.prog w = .ok (.bool false) w := by kernel_rfl
theorem neq_func (w : World) (f : FuncId) (c : Array Value) : (binOp .neq 121 (.func (.func f) #[] c) .nilFunc).run Tryz.prog w = .ok (.bool true) w := by kernel_rfl
set_option maxRecDepth 100000 in
set_option maxHeartbeats 1000000 in
theorem trail1_any {B base : Nat} {v : Value} {tr : List (List UInt8)} (x : List UInt8) (w : World) (hv : Boxed w B 70 v) (ht : Texts w base v tr) (hB : base ≤ B) (hbase : base ≤ w.heap.size) (hl : tr.length ≤ 1099511627776) :
    Calls Tryz.prog 80 #[.string (bs x), .pointer (some ⟨B, 0, none⟩)] w fun e w' => e = .returned (.tuple #[]) ∧ ∃ v', Boxed w' B 70 v' ∧ Texts w' base v' (tr ++ [x]) ∧ But (B :: v.ownBlock.toList) w w' ∧ (∀ k ∈ v'.ownBlock.toList, k ∈ v.ownBlock.toList ∨ w.heap.size ≤ k) := by
  obtain ⟨i0, hi, hz0, hz1, hz2⟩ := info_parts Tryz.infoString
  have Hi := Lib.hid hi
  have Hz0 := Lib.hid hz0
  have Hz1 := Lib.hid hz1
  have Hz2 := Lib.hid hz2
  have hvc := hv.cell
  have hvf := hv.frozen
  have Hv := Lib.hid hv
  have Ht := Lib.hid ht
  obtain ⟨n, hn⟩ : ∃ n, n = tr.length := ⟨_, rfl⟩
  have Hn := Lib.hid hn
  rw [← hn] at hl
  have hrow : w.ownsRow base 9 1 v n (tr.map encS) := by rw [hn]; exact ht
  have Hrow := Lib.hid hrow
  clear hi hz0 hz1 hz2 hv ht hn hrow
  go_enter Tryz.func80, Tryz.ntmps80
  go_wp2_with (at_builtin; go_loud (refine wpList_append_own_at _ rfl _ _ 70 rfl base 9 i0 (.string ⟨#[]⟩) 1 16 Tryz.underlying70 Hi.out Hz0.out Hz1.out Hz2.out rfl (by decide) _ _ _ rfl (Hrow.out.alloc _) ⟨w.heap.size, 0, none⟩ 1 1 [encS x] rfl rfl (cell_one_new _ _ _) (by simp [Value.oneCell', encS]) (by unfold maxLen; omega) (by omega) (by simp; omega) ?_); intro v' w1 hown' hgrow _ hblk; obtain ⟨g', cap', rfl⟩ := ownsRow_succ hown'; obtain ⟨hv1, hv2, hr2, hk2, hb3⟩ := Hv.out.appended (by decide) Hrow.out hbase hB hown' hgrow; have hc1 := hv1.cell; have hf1 := hv1.frozen
               have Hown := Lib.hid hown'
               have Hgrow := Lib.hid hgrow
               have Hblk := Lib.hid hblk
               have Hv2 := Lib.hid hv2
               have Hr2 := Lib.hid hr2
               clear hown' hgrow hblk hv1 hv2 hr2 hk2 hb3)
  refine bodyPost_end (results_none rfl _ _ _) rfl ⟨rfl, _, Hv2.out, ?_, ?_, ?_⟩
  · refine texts_snoc (u := encS x) ?_ rfl
    rw [← Hn.out]
    exact Hr2.out
  · refine (((But.refl _ w).alloc _).grown Hgrow.out (fun k hk => ?_)).setCell (p := ⟨B, 0, none⟩) (.inl (List.mem_cons_self ..)) _
    refine .inl (List.mem_cons_of_mem _ ?_)
    have hk2 : v.ownBlock = some k := hk
    rw [hk2]; simp
  · intro k hk
    rcases own_list Hblk.out hk with h | h
    · exact .inl h
    · exact .inr (by rw [h]; simp)
set_option maxRecDepth 100000 in
set_option maxHeartbeats 1000000 in
theorem told_any {T Wk base : Nat} {a : ByteArray} {lv : Value} {hops : Int} {keep : Bool} {sv : Value} {tr : List (List UInt8)} {F : List Nat} (x : List UInt8) (w : World) (hw : w.heap[Wk]? = some (walkObj T a lv hops keep sv)) (hs : StepAt w base sv tr F) (hbase : base ≤ w.heap.size) (hl : tr.length ≤ 1099511627776) :
    Calls Tryz.prog 112 #[.pointer (some ⟨Wk, 0, none⟩), .string (bs x)] w fun e w' => e = .returned (.tuple #[]) ∧ ∃ F', But F w w' ∧ StepAt w' base sv (tr ++ [x]) F' ∧ ∀ k ∈ F', k ∈ F ∨ w.heap.size ≤ k := by
  obtain ⟨_, _, _, _, _, _, _, c7⟩ := walk_cells hw
  clear hw
  rcases hs with ⟨rfl, rfl⟩ | ⟨B, v, rfl, hv, ht, hB, rfl⟩
  · have e0 := neq_nilFunc w
    go_enter Tryz.func112, Tryz.ntmps112
    go_wp2
    refine bodyPost_end (results_none rfl _ _ _) rfl ⟨rfl, [], But.refl _ _, .inl ⟨rfl, rfl⟩, fun k hk => (by cases hk)⟩
  · have H1 := Lib.hid (trail1_any x w hv ht hB hbase hl)
    clear hv ht
    have e0 := neq_func w 80 #[.pointer (some ⟨B, 0, none⟩)]
    go_enter Tryz.func112, Tryz.ntmps112
    go_wp2_with (refine H1.out.mono ?_; rintro e w1 ⟨rfl, v', h1, h2, h3, h4⟩
                 have K1 := Lib.hid h1
                 have K2 := Lib.hid h2
                 have K3 := Lib.hid h3
                 have K4 := Lib.hid h4
                 clear h1 h2 h3 h4)
    refine bodyPost_end (results_none rfl _ _ _) rfl ⟨rfl, _, K3.out, .inr ⟨B, v', rfl, K1.out, K2.out, hB, rfl⟩, fun k hk => ?_⟩
    rcases List.mem_cons.1 hk with rfl | hk
    · exact .inl (List.mem_cons_self ..)
    · exact (K4.out k hk).elim (fun h => .inl (List.mem_cons_of_mem _ h)) .inr
end Go.Proofs.YtdkodedocklmdaaGreatDoor
