/- strings.IndexRune, strings.IndexAny and strings.ContainsAny at the two characters zero and slash: of every text, whether it holds one. -/
import Derived.Test.YtfanfkogogijpaaGreatDoorShelf
import Derived.Test.YtfanfkogogijpaaGreatDoorUtf
import Derived.Test.YtfanfkogogijpaaGreatDoorKit
import Derived.WalkMore
set_option linter.unusedSimpArgs false
set_option linter.unusedVariables false
namespace Go.Proofs.YtfanfkogogijpaaGreatDoor
open Go.RowKit Go.Lib
attribute [local go_sem] ba_get

set_option maxRecDepth 100000 in
set_option maxHeartbeats 4000000 in
theorem indexRune_high (r : Int) (w : World) (hv : Utf8.valid r = true) (h : 128 ≤ r) :
    Calls Tryz.prog 84 #[.string ⟨#[0, 47]⟩, .int .i32 r] w fun e w' => e = .returned (.int .i64 (-1)) ∧ Below w.heap.size w w' := by
  have hvr : Utf8.valid r = true := hv
  rw [validRune_eq] at hvr
  unfold validRune at hvr
  have hr := of_decide_eq_true hvr
  have hlo : ¬ r < 128 := by omega
  have hpos : 0 ≤ r := by omega
  have Hv := Lib.hid hv
  clear hv hvr
  by_cases he : r = 65533
  · subst he
    have n0 : ∀ ty, (Instr.next (.pointer (some ⟨w.heap.size, 0, none⟩)) true ty).run Tryz.prog (w.iter ⟨#[0, 47]⟩ 0) = .ok (.tuple #[.bool true, .int .i64 0, .int .i32 0]) (w.iter ⟨#[0, 47]⟩ 1) := fun ty => run_next_ascii w ⟨#[0, 47]⟩ 0 ty (by decide) (by decide)
    have n1 : ∀ ty, (Instr.next (.pointer (some ⟨w.heap.size, 0, none⟩)) true ty).run Tryz.prog (w.iter ⟨#[0, 47]⟩ 1) = .ok (.tuple #[.bool true, .int .i64 1, .int .i32 47]) (w.iter ⟨#[0, 47]⟩ 2) := fun ty => run_next_ascii w ⟨#[0, 47]⟩ 1 ty (by decide) (by decide)
    have n2 : ∀ ty, (Instr.next (.pointer (some ⟨w.heap.size, 0, none⟩)) true ty).run Tryz.prog (w.iter ⟨#[0, 47]⟩ 2) = .ok (.tuple #[.bool false]) (w.iter ⟨#[0, 47]⟩ 2) := fun ty => run_next_end w ⟨#[0, 47]⟩ 2 ty (by decide)
    clear hr h hpos
    go_enter Tryz.func84, Tryz.ntmps84
    go_wp2
    refine wp_loop_rounds 3 ?_
    rw [rounds_succ]
    go_wp2
    rw [rounds_succ]
    go_wp2
    rw [rounds_succ]
    go_wp2
    go_ret
    exact ⟨rfl, (Below.refl _ _).alloc (Nat.le_refl _) _⟩
  · have hne : (r == 65533) = false := by simpa using he
    have hvd : Lib.validRune r = true := decide_eq_true hr
    rcases encode_forms r Hv.out h with ⟨a, b, e, hb⟩ | ⟨a, b, c, e⟩ | ⟨a, b, c, d, e⟩
    · have hb1 : ((47 : Int) != (b.toNat : Int)) = true := by rw [bne_iff_ne]; omega
      have hi : ∀ W, Calls Tryz.prog 38 #[.string ByteArray.empty, .int .u8 (b.toNat : Int)] W fun e w' => e = .returned (.int .i64 (-1)) ∧ w' = W := fun W => Tryz.strings_IndexByte _ _ _
      have Hi := Lib.hid hi
      clear hi he Hv
      go_enter Tryz.func84, Tryz.ntmps84
      go_wp2_with (go_at_call 88; refine (Tryz.utf8_ValidRune _ _).mono ?_; rintro e w' ⟨rfl, rfl⟩; rw [hvd])
      go_wp2
      go_step3
      go_wp2
      refine wp_loop_rounds 1 ?_
      rw [rounds_succ]
      go_wp2
      go_step3
      go_wp2
      go_quiet (fail)
      go_wp2_with fail
      go_quiet ((go_at_call 38; exact quiet_add_same (Hi.out _)))
      go_wp2
      repeat (first | rw [Exit.noGoto_ret] | (simp only [Exit.inBlock, Exit.then]; rw [Exit.noGoto_ret]))
      go_ret
      exact ⟨rfl, below_drewN (Below.refl _ _) _⟩
    · clear he Hv
      go_enter Tryz.func84, Tryz.ntmps84
      go_wp2_with (go_at_call 88; refine (Tryz.utf8_ValidRune _ _).mono ?_; rintro e w' ⟨rfl, rfl⟩; rw [hvd])
      go_wp2
      go_step3
      go_wp2
      refine wp_loop_rounds 1 ?_
      rw [rounds_succ]
      go_wp2
      repeat (first | rw [Exit.noGoto_ret] | (simp only [Exit.inBlock, Exit.then]; rw [Exit.noGoto_ret]))
      go_ret
      exact ⟨rfl, Below.refl _ _⟩
    · clear he Hv
      go_enter Tryz.func84, Tryz.ntmps84
      go_wp2_with (go_at_call 88; refine (Tryz.utf8_ValidRune _ _).mono ?_; rintro e w' ⟨rfl, rfl⟩; rw [hvd])
      go_wp2
      go_step3
      go_wp2
      refine wp_loop_rounds 1 ?_
      rw [rounds_succ]
      go_wp2
      repeat (first | rw [Exit.noGoto_ret] | (simp only [Exit.inBlock, Exit.then]; rw [Exit.noGoto_ret]))
      go_ret
      exact ⟨rfl, Below.refl _ _⟩

/-- is what IndexAny answers not below 0 just where the text holds a bad byte? -/
def Found (s : ByteArray) (w : World) (e : Ending) (w' : World) : Prop := ∃ v : Int, e = .returned (.int .i64 v) ∧ decide (0 ≤ v) = s.data.toList.any bad ∧ Below w.heap.size w w'

theorem contains_bad (x : UInt8) : [0, 47].contains x = bad x := by
  unfold bad
  simp only [List.contains, List.elem]
  cases x == 0 <;> cases x == 47 <;> rfl
theorem any_contains (s : List UInt8) : Lib.containsAny s [0, 47] = s.any bad := by
  unfold Lib.containsAny
  by_cases h : s.any bad = true
  · rw [h]
    have key : ∀ l : List UInt8, l.any bad = true → 0 ≤ Lib.indexAny l [0, 47] := by
      intro l hl
      obtain ⟨x, hx, hb⟩ := List.any_eq_true.1 hl
      obtain ⟨i, hi, hxi⟩ := List.getElem_of_mem hx
      by_cases hn : Lib.NoAny l [0, 47] l.length
      · have := hn i x hi (by rw [List.getElem?_eq_getElem hi, hxi])
        rw [contains_bad, hb] at this
        cases this
      · have hge := Lib.indexAny_ge [0, 47] l
        rcases Int.lt_or_le (Lib.indexAny l [0, 47]) 0 with hlt | hge0
        · exfalso
          apply hn
          have hm : Lib.indexAny l [0, 47] = -1 := by omega
          clear hlt hge hn hx hxi hi hb hl i x
          induction l with
          | nil => intro j b hj; simp at hj
          | cons a t ih =>
            by_cases ha : [0, 47].contains a = true
            · rw [Lib.indexAny_hit (i := 0) (x := a) (Lib.NoAny.zero _ _) rfl ha] at hm
              simp at hm
            · have ha : [0, 47].contains a = false := by simpa using ha
              unfold Lib.indexAny at hm
              rw [ha] at hm
              have ht : Lib.indexAny t [0, 47] = -1 := by
                have := Lib.indexAny_ge [0, 47] t
                revert hm
                simp only [Bool.false_eq_true, if_false]
                split
                · rename_i h1; intro _; simpa using h1
                · intro h2; omega
              intro j b hj hb
              cases j with
              | zero => simp at hb; subst hb; exact ha
              | succ j => exact ih ht j b (by simpa using hj) (by simpa using hb)
        · exact hge0
    exact decide_eq_true (key s h)
  · have h : s.any bad = false := by simpa using h
    rw [h, Lib.indexAny_none]
    · rfl
    · intro j b hj hb
      rw [contains_bad]
      exact Bool.eq_false_iff.2 (fun hc => by rw [List.any_eq_true.2 ⟨b, List.mem_of_getElem? hb, hc⟩] at h; cases h)

set_option maxHeartbeats 4000000 in
set_option maxRecDepth 1000000 in
theorem indexAny_short (s : ByteArray) (w : World) (h8 : s.size ≤ 8) :
    Calls Tryz.prog 82 #[.string s, .string ⟨#[0, 47]⟩] w (Found s w) := by
  have h8z : decide ((8 : Int) < (s.size : Int)) = false := decide_eq_false (by omega)
  go_enter Tryz.func82, Tryz.ntmps82
  go_wp2_with (go_at_call 85; refine (flip (Tryz.strings_shouldUseASCIISet _ _)).mono ?_; rintro e w' ⟨rfl, rfl⟩; rw [h8z])
  go_loopg [9, 10] s.size (fun g _ _ wx => ∃ i : Nat, i ≤ s.size ∧ s.size - i ≤ g ∧ NoBad s i ∧ wx.heap[w.heap.size]? = some (Obj.stringIter s i) ∧ Below w.heap.size w wx)
  case atStart => exact ⟨0, by omega, by omega, NoBad.zero s, World.iter_heap _ _ _, (Below.refl _ _).alloc (Nat.le_refl _) _⟩
  case round =>
    obtain ⟨i, hi, hg, hno, hit, hbel⟩ := hrel
    have Hno := Lib.hid hno
    have Hit := Lib.hid hit
    have Hbel := Lib.hid hbel
    clear hno hit hbel
    by_cases hlt : i < s.size
    · rcases Nat.lt_or_ge (s.get! i).toNat 128 with h128 | h128
      · have hnx := fun ty => run_next_any_at (P := Tryz.prog) wr w.heap.size s i ty Hit.out hlt
        rw [decode_low s i hlt h128] at hnx
        have hcb := Lib.contains_iff_indexByte [0, 47] (s.get! i)
        rw [contains_bad] at hcb
        have hback : ((s.get! i).toNat : Int).toNat.toUInt8 = s.get! i := by simp
        have hk := below_iterAt Hbel.out w.heap.size s (i + 1) (Nat.le_refl _)
        have hh := iterAt_heap Hit.out s (i + 1)
        have hnb := fun hb => Hno.out.succ hlt hb
        have hpos : (0 : Int) ≤ ((s.get! i).toNat : Int) := by omega
        have hup : ((s.get! i).toNat : Int) < 128 := by omega
        have hany := fun hb => any_bad_hit (s := s) hlt hb
        generalize hx : s.get! i = x at *
        have Hk := Lib.hid hk
        have Hh := Lib.hid hh
        have Hnb := Lib.hid hnb
        have Hback := Lib.hid hback
        have Hany := Lib.hid hany
        clear hk hh hnb hback hany hx
        cases hb : bad x
        · rw [hb] at hcb
          have hneg : ¬ ((0 : Int) ≤ Lib.indexByte [0, 47] x) := of_decide_eq_false hcb.symm
          have Hb := Lib.hid hb
          clear hb hcb
          go_wp2_with (go_at_call 84; refine (flip (Tryz.strings_IndexRune_ascii _ _ _ hpos hup)).mono ?_; rintro e w' ⟨rfl, rfl⟩; rw [Hback.out])
          go_roundg (s.size - (i + 1))
          case measure => omega
          case rel => exact ⟨i + 1, by omega, by omega, Hnb.out Hb.out, Hh.out, Hk.out⟩
        · rw [hb] at hcb
          have hge : (0 : Int) ≤ Lib.indexByte [0, 47] x := of_decide_eq_true hcb.symm
          have Hb := Lib.hid hb
          clear hb hcb
          go_wp2_with (go_at_call 84; refine (flip (Tryz.strings_IndexRune_ascii _ _ _ hpos hup)).mono ?_; rintro e w' ⟨rfl, rfl⟩; rw [Hback.out])
          go_ret
          exact ⟨_, rfl, by rw [Hany.out Hb.out]; simp, Hk.out⟩
      · have hnx := fun ty => run_next_any_at (P := Tryz.prog) wr w.heap.size s i ty Hit.out hlt
        have hv := decode_valid s i
        have hup := (decode_up s i hlt h128).1
        have hwd := (decode_up s i hlt h128).2
        have hsk := (decode_skip s i hlt h128).1
        have hnb := Hno.out.skip hlt h128
        have hk := below_iterAt Hbel.out w.heap.size s (i + (Utf8.decode s i).2) (Nat.le_refl _)
        have hh := iterAt_heap Hit.out s (i + (Utf8.decode s i).2)
        generalize Utf8.decode s i = d at *
        obtain ⟨r, q⟩ := d
        have hc : ∀ W, Calls Tryz.prog 84 #[.string ⟨#[0, 47]⟩, .int .i32 (r : Int)] W fun e w' => e = .returned (.int .i64 (-1)) ∧ Below W.heap.size W w' := fun W => indexRune_high r W hv (by have : 128 ≤ r := hup; omega)
        have Hc := Lib.hid hc
        have Hk := Lib.hid hk
        have Hh := Lib.hid hh
        have Hnb := Lib.hid hnb
        clear hk hh hnb hc hv hup h128
        go_wp2_with (go_at_call 84; refine (Hc.out _).mono ?_; rintro e w' ⟨rfl, hb1⟩)
        have hsz : w.heap.size < (wr.iterAt w.heap.size s (i + q)).heap.size := (Array.getElem?_eq_some_iff.1 Hh.out).1
        go_roundg (s.size - (i + q))
        case measure => omega
        case rel => exact ⟨i + q, by omega, by omega, Hnb.out, (hb1.block _ hsz).trans Hh.out, Hk.out.trans (hb1.mono (Nat.le_of_lt hsz))⟩
    · obtain rfl : i = s.size := by omega
      have hnx := fun ty => run_next_end_at (P := Tryz.prog) wr w.heap.size s s.size ty Hit.out (by omega)
      go_wp2
      go_ret
      exact ⟨_, rfl, by rw [NoBad.all Hno.out]; rfl, Hbel.out⟩

theorem Tryz.asciiZero : ∀ w, (zeroValue 156).run Tryz.prog w = .ok (.agg (Array.replicate 256 (.bool false))) w := fun _ => by kernel_rfl
theorem sl_ascii : ∀ (j : Nat) b, (⟨#[0, 47]⟩ : ByteArray).data.toList[j]? = some b → b.toNat < 128 := by
  intro j b h
  have hm := List.mem_of_getElem? h
  simp at hm
  rcases hm with rfl | rfl <;> decide
theorem indexAny_sl (s : ByteArray) (w : World) (hs : s.size < 4294967281) :
    Calls Tryz.prog 82 #[.string s, .string ⟨#[0, 47]⟩] w (Found s w) := by
  rcases Nat.lt_or_ge 8 s.size with h | h
  · refine (Tryz.strings_IndexAny_long Tryz.asciiZero s ⟨#[0, 47]⟩ w (by decide) h hs (by decide) sl_ascii).mono ?_
    rintro e w' ⟨rfl, rfl⟩
    refine ⟨_, rfl, ?_, ((Below.refl _ _).alloc (Nat.le_refl _) _).alloc (by simp) _⟩
    exact any_contains s.data.toList
  · exact indexAny_short s w h
set_option maxHeartbeats 1000000 in
/-- strings.ContainsAny at zero and slash, of every text. -/
theorem containsAny_sl (s : ByteArray) (w : World) (hs : s.size < 4294967281) :
    Calls Tryz.prog 75 #[.string s, .string ⟨#[0, 47]⟩] w fun e w' => e = .returned (.bool (s.data.toList.any bad)) ∧ Below w.heap.size w w' := by
  go_enter Tryz.func75, Tryz.ntmps75
  go_wp2_with (go_at_call 82; refine (indexAny_sl s _ hs).mono ?_; rintro e w' ⟨v, rfl, hv, hb⟩; have Hv := Lib.hid hv; clear hv)
  go_ret
  exact ⟨by rw [Hv.out]; rfl, hb⟩
end Go.Proofs.YtfanfkogogijpaaGreatDoor
