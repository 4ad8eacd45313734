/- What FlateBack answers: true. -/
import Derived.Test.YtjielagabnkimaaDoorFLaws
set_option linter.unusedSimpArgs false
set_option linter.unusedVariables false
namespace Go.Proofs.YtjielagabnkimaaDoor
open Go.RowKit
theorem plain_same (n : Nat) (w : World) (hn : n ≤ 32) (hg : Handle w) : Calls Tryd.prog 17 #[errV n, .int .i64 (n : Int)] w fun e w' => e = .returned (.bool true) ∧ Below w.heap.size w w' := by
  have h := plain_any n (n : Int) w hn hg
  rw [decide_eq_true (rfl : (n : Int) = (n : Int))] at h
  exact h
theorem qempty {q : ByteArray} (h : q.data.toList = []) : q.toList.isEmpty = true := by rw [ByteArray.toList_eq, h]; rfl
theorem qfull {q : ByteArray} (h : q.data.toList ≠ []) : q.toList.isEmpty = false := by rw [ByteArray.toList_eq]; cases ha : q.data.toList <;> simp_all
theorem size_pos {s : ByteArray} (h : s.data.toList ≠ []) : 1 ≤ s.size := by
  have h1 := List.length_pos_iff.2 h
  have h2 : s.data.toList.length = s.size := rfl
  omega

set_option maxRecDepth 100000 in
set_option maxHeartbeats 1000000 in
theorem flateBack_big1 (s q : ByteArray) (k : Int) (w : World) (hb : (1048576 : Int) < (s.size : Int)) :
    Calls Tryd.prog 7 #[.string s, .string q, .int .i64 k] w fun e w' => e = .returned (.bool true) ∧ Below w.heap.size w w' := by
  go_enter Tryd.func7, Tryd.ntmps7
  go_wp2_with fail
  go_ret
  exact ⟨rfl, Below.refl _ _⟩
set_option maxRecDepth 100000 in
set_option maxHeartbeats 1000000 in
theorem flateBack_big2 (s q : ByteArray) (k : Int) (w : World) (ha : ¬ (1048576 : Int) < (s.size : Int)) (hb : (1048576 : Int) < (q.size : Int)) :
    Calls Tryd.prog 7 #[.string s, .string q, .int .i64 k] w fun e w' => e = .returned (.bool true) ∧ Below w.heap.size w w' := by
  have hd : decide ((1048576 : Int) < (s.size : Int)) = false := decide_eq_false ha
  go_enter Tryd.func7, Tryd.ntmps7
  go_wp2_with fail
  go_ret
  exact ⟨rfl, Below.refl _ _⟩

set_option maxRecDepth 100000 in
set_option maxHeartbeats 8000000 in
theorem flateBack_ee (s q : ByteArray) (k : Int) (w : World) (hk : -9223372036854775808 ≤ k ∧ k ≤ 9223372036854775807) (ha : ¬ (1048576 : Int) < (s.size : Int)) (hb : ¬ (1048576 : Int) < (q.size : Int)) (hT : Tabs w) (hO : OrdAt w) (hG : Handle w)
    (hse : s.data.toList = []) (hqe : q.data.toList = []) :
    Calls Tryd.prog 7 #[.string s, .string q, .int .i64 k] w fun e w' => e = .returned (.bool true) ∧ Below w.heap.size w w' := by
  have da : decide ((1048576 : Int) < (s.size : Int)) = false := decide_eq_false ha
  have db : decide ((1048576 : Int) < (q.size : Int)) = false := decide_eq_false hb
  have hss : s.size ≤ 1048576 := by omega
  have hqs : q.size ≤ 1048576 := by omega
  have qs := qempty hse
  have qq := qempty hqe
  have tb : ∀ W, Below w.heap.size w W → Tabs W ∧ OrdAt W ∧ Handle W := fun W hb => ⟨(tabs_below hT hO hb).1, (tabs_below hT hO hb).2, hG.below hb (Nat.le_refl _)⟩
  obtain ⟨d, hd⟩ : ∃ d, d = bs (deflateP s.data.toList) := ⟨_, rfl⟩
  obtain ⟨z, hz⟩ : ∃ z, z = bs (gzipP s.data.toList) := ⟨_, rfl⟩
  have hdl : (deflateP s.data.toList).length = d.size := by rw [hd]; rfl
  have hzl : z.size = d.size + 18 := by rw [hz, ← hdl]; exact gzipP_length _
  have hds : d.size < 2147483648 := by rw [← hdl]; exact deflateP_small (by show s.size < _; omega)
  have hzz : ((z.size : Int) != (d.size : Int) + 18) = false := by rw [hzl]; simp
  have hzs : z.size < 2147483666 := by omega
  have c1 : ∀ W, Below w.heap.size w W → Calls Tryd.prog 9 #[.string s] W fun e w' => e = .returned (.string d) ∧ Below W.heap.size W w' := by
    intro W hW; rw [hd]; exact deflate_any s W (by omega) (tb W hW).1
  have c2 : ∀ W m, Below w.heap.size w W → (s.size : Int) ≤ m → m < 2 ^ 31 → Calls Tryd.prog 16 #[.string (d ++ q), .int .i64 m] W fun e w' => e = .returned (.tuple #[.string s, .int .i64 (d.size : Int), .nilIface]) ∧ Below W.heap.size W w' := by
    intro W m hW h1 h2; rw [← hdl, hd]; exact infl_ok s q m W hss hqs h1 (by omega) (tb W hW).1 (tb W hW).2.1
  have c3 : ∀ W, Below w.heap.size w W → Calls Tryd.prog 13 #[.string s] W fun e w' => e = .returned (.string z) ∧ Below W.heap.size W w' := by
    intro W hW; rw [hz]; exact gzip_any s W (by omega) (tb W hW).1
  have c4 : ∀ W m, Below w.heap.size w W → (s.size : Int) ≤ m → m < 2 ^ 31 → Calls Tryd.prog 19 #[.string z, .int .i64 m] W fun e w' => e = .returned (.tuple #[.string s, .nilIface]) ∧ Below W.heap.size W w' := by
    intro W m hW h1 h2; rw [hz]; exact gun_ok s m W hss h1 (by omega) (tb W hW).1 (tb W hW).2.1
  have c5 : ∀ W, Below w.heap.size w W → Calls Tryd.prog 19 #[.string (z ++ q), .int .i64 (s.size : Int)] W fun e w' => e = .returned (.tuple #[.string s, .nilIface]) ∧ Below W.heap.size W w' := by
    intro W hW; rw [hz]; exact gun_none s q W hss hqe (tb W hW).1 (tb W hW).2.1
  have wk : ∀ W, Below w.heap.size w W → Calls Tryd.prog 10 #[] W fun e w' => e = .returned (.bool true) ∧ Below W.heap.size W w' := fun W hW => works_any W (tb W hW).1 (tb W hW).2.1
  have pk1 := fun W => pick_any k 2097152 W hk (by omega) (by omega)
  have HC := Lib.hid (Below.refl w.heap.size w)
  have C1 := Lib.hid c1
  have C2 := Lib.hid c2
  have C3 := Lib.hid c3
  have C4 := Lib.hid c4
  have C5 := Lib.hid c5
  have WK := Lib.hid wk
  have PK1 := Lib.hid pk1
  clear c1 c2 c3 c4 c5 wk pk1 tb hd hz hdl hzl hT hO hG hse hqe hk
  go_enter Tryd.func7, Tryd.ntmps7
  go_wp2_with (go_at_call 18; refine (PK1.out _).mono ?_; rintro e w0 ⟨m, hm0, hm1, rfl, rfl⟩; clear PK1)
  go_wp2_with (go_at_call 9; refine (C1.out _ HC.out).mono ?_; rintro e w1 ⟨rfl, hb⟩
               have hq := HC.out.trans (hb.mono HC.out.size)
               clear HC hb
               have HC := Lib.hid hq
               clear hq)
  have C2' := C2
  go_wp2_with (go_at_call 16; refine (C2.out _ _ HC.out (by omega) (by omega)).mono ?_; rintro e w2 ⟨rfl, hb⟩; clear C2
               have hq := HC.out.trans (hb.mono HC.out.size)
               clear HC hb
               have HC := Lib.hid hq
               clear hq)
  go_wp2_with (go_at_call 16; refine (C2'.out _ _ HC.out (by omega) (by omega)).mono ?_; rintro e w3 ⟨rfl, hb⟩; clear C2'
               have hq := HC.out.trans (hb.mono HC.out.size)
               clear HC hb
               have HC := Lib.hid hq
               clear hq)
  go_wp2_with (go_at_call 13; refine (C3.out _ HC.out).mono ?_; rintro e w4 ⟨rfl, hb⟩
               have hq := HC.out.trans (hb.mono HC.out.size)
               clear HC hb
               have HC := Lib.hid hq
               clear hq)
  go_wp2_with (go_at_call 19; refine (C4.out _ _ HC.out (by omega) (by omega)).mono ?_; rintro e w5 ⟨rfl, hb⟩; clear C4
               have hq := HC.out.trans (hb.mono HC.out.size)
               clear HC hb
               have HC := Lib.hid hq
               clear hq)
  go_wp2_with (go_at_call 19; refine (C5.out _ HC.out).mono ?_; rintro e w6 ⟨rfl, hb⟩; clear C5
               have hq := HC.out.trans (hb.mono HC.out.size)
               clear HC hb
               have HC := Lib.hid hq
               clear hq)
  go_wp2_with (go_at_call 10; refine (WK.out _ HC.out).mono ?_; rintro e w8 ⟨rfl, hb⟩
               have hq := HC.out.trans (hb.mono HC.out.size)
               clear HC hb
               have HC := Lib.hid hq
               clear hq)
  go_ret
  exact ⟨rfl, HC.out⟩

set_option maxRecDepth 100000 in
set_option maxHeartbeats 8000000 in
theorem flateBack_ef (s q : ByteArray) (k : Int) (w : World) (hk : -9223372036854775808 ≤ k ∧ k ≤ 9223372036854775807) (ha : ¬ (1048576 : Int) < (s.size : Int)) (hb : ¬ (1048576 : Int) < (q.size : Int)) (hT : Tabs w) (hO : OrdAt w) (hG : Handle w)
    (hse : s.data.toList = []) (hqe : q.data.toList ≠ []) :
    Calls Tryd.prog 7 #[.string s, .string q, .int .i64 k] w fun e w' => e = .returned (.bool true) ∧ Below w.heap.size w w' := by
  have da : decide ((1048576 : Int) < (s.size : Int)) = false := decide_eq_false ha
  have db : decide ((1048576 : Int) < (q.size : Int)) = false := decide_eq_false hb
  have hss : s.size ≤ 1048576 := by omega
  have hqs : q.size ≤ 1048576 := by omega
  have qs := qempty hse
  have qq := qfull hqe
  have tb : ∀ W, Below w.heap.size w W → Tabs W ∧ OrdAt W ∧ Handle W := fun W hb => ⟨(tabs_below hT hO hb).1, (tabs_below hT hO hb).2, hG.below hb (Nat.le_refl _)⟩
  obtain ⟨d, hd⟩ : ∃ d, d = bs (deflateP s.data.toList) := ⟨_, rfl⟩
  obtain ⟨z, hz⟩ : ∃ z, z = bs (gzipP s.data.toList) := ⟨_, rfl⟩
  have hdl : (deflateP s.data.toList).length = d.size := by rw [hd]; rfl
  have hzl : z.size = d.size + 18 := by rw [hz, ← hdl]; exact gzipP_length _
  have hds : d.size < 2147483648 := by rw [← hdl]; exact deflateP_small (by show s.size < _; omega)
  have hzz : ((z.size : Int) != (d.size : Int) + 18) = false := by rw [hzl]; simp
  have hzs : z.size < 2147483666 := by omega
  have c1 : ∀ W, Below w.heap.size w W → Calls Tryd.prog 9 #[.string s] W fun e w' => e = .returned (.string d) ∧ Below W.heap.size W w' := by
    intro W hW; rw [hd]; exact deflate_any s W (by omega) (tb W hW).1
  have c2 : ∀ W m, Below w.heap.size w W → (s.size : Int) ≤ m → m < 2 ^ 31 → Calls Tryd.prog 16 #[.string (d ++ q), .int .i64 m] W fun e w' => e = .returned (.tuple #[.string s, .int .i64 (d.size : Int), .nilIface]) ∧ Below W.heap.size W w' := by
    intro W m hW h1 h2; rw [← hdl, hd]; exact infl_ok s q m W hss hqs h1 (by omega) (tb W hW).1 (tb W hW).2.1
  have c3 : ∀ W, Below w.heap.size w W → Calls Tryd.prog 13 #[.string s] W fun e w' => e = .returned (.string z) ∧ Below W.heap.size W w' := by
    intro W hW; rw [hz]; exact gzip_any s W (by omega) (tb W hW).1
  have c4 : ∀ W m, Below w.heap.size w W → (s.size : Int) ≤ m → m < 2 ^ 31 → Calls Tryd.prog 19 #[.string z, .int .i64 m] W fun e w' => e = .returned (.tuple #[.string s, .nilIface]) ∧ Below W.heap.size W w' := by
    intro W m hW h1 h2; rw [hz]; exact gun_ok s m W hss h1 (by omega) (tb W hW).1 (tb W hW).2.1
  have c5 : ∀ W, Below w.heap.size w W → Calls Tryd.prog 19 #[.string (z ++ q), .int .i64 (s.size : Int)] W fun e w' => e = .returned (.tuple #[.string ⟨#[]⟩, errV 3]) ∧ Below W.heap.size W w' := by
    intro W hW; rw [hz]; exact gun_more s q W hss hqs hqe (tb W hW).1 (tb W hW).2.1
  have p3 : ∀ W, Below w.heap.size w W → Calls Tryd.prog 17 #[errV 3, .int .i64 3] W fun e w' => e = .returned (.bool true) ∧ Below W.heap.size W w' := fun W hW => plain_same 3 W (by decide) (tb W hW).2.2
  have wk : ∀ W, Below w.heap.size w W → Calls Tryd.prog 10 #[] W fun e w' => e = .returned (.bool true) ∧ Below W.heap.size W w' := fun W hW => works_any W (tb W hW).1 (tb W hW).2.1
  have pk1 := fun W => pick_any k 2097152 W hk (by omega) (by omega)
  have HC := Lib.hid (Below.refl w.heap.size w)
  have C1 := Lib.hid c1
  have C2 := Lib.hid c2
  have C3 := Lib.hid c3
  have C4 := Lib.hid c4
  have C5 := Lib.hid c5
  have P3 := Lib.hid p3
  have WK := Lib.hid wk
  have PK1 := Lib.hid pk1
  clear c1 c2 c3 c4 c5 p3 wk pk1 tb hd hz hdl hzl hT hO hG hse hqe hk
  go_enter Tryd.func7, Tryd.ntmps7
  go_wp2_with (go_at_call 18; refine (PK1.out _).mono ?_; rintro e w0 ⟨m, hm0, hm1, rfl, rfl⟩; clear PK1)
  go_wp2_with (go_at_call 9; refine (C1.out _ HC.out).mono ?_; rintro e w1 ⟨rfl, hb⟩
               have hq := HC.out.trans (hb.mono HC.out.size)
               clear HC hb
               have HC := Lib.hid hq
               clear hq)
  have C2' := C2
  go_wp2_with (go_at_call 16; refine (C2.out _ _ HC.out (by omega) (by omega)).mono ?_; rintro e w2 ⟨rfl, hb⟩; clear C2
               have hq := HC.out.trans (hb.mono HC.out.size)
               clear HC hb
               have HC := Lib.hid hq
               clear hq)
  go_wp2_with (go_at_call 16; refine (C2'.out _ _ HC.out (by omega) (by omega)).mono ?_; rintro e w3 ⟨rfl, hb⟩; clear C2'
               have hq := HC.out.trans (hb.mono HC.out.size)
               clear HC hb
               have HC := Lib.hid hq
               clear hq)
  go_wp2_with (go_at_call 13; refine (C3.out _ HC.out).mono ?_; rintro e w4 ⟨rfl, hb⟩
               have hq := HC.out.trans (hb.mono HC.out.size)
               clear HC hb
               have HC := Lib.hid hq
               clear hq)
  go_wp2_with (go_at_call 19; refine (C4.out _ _ HC.out (by omega) (by omega)).mono ?_; rintro e w5 ⟨rfl, hb⟩; clear C4
               have hq := HC.out.trans (hb.mono HC.out.size)
               clear HC hb
               have HC := Lib.hid hq
               clear hq)
  go_wp2_with (go_at_call 19; refine (C5.out _ HC.out).mono ?_; rintro e w6 ⟨rfl, hb⟩; clear C5
               have hq := HC.out.trans (hb.mono HC.out.size)
               clear HC hb
               have HC := Lib.hid hq
               clear hq)
  go_wp2_with (go_at_call 17; refine (P3.out _ HC.out).mono ?_; rintro e w7 ⟨rfl, hb⟩; clear P3
               have hq := HC.out.trans (hb.mono HC.out.size)
               clear HC hb
               have HC := Lib.hid hq
               clear hq)
  go_wp2_with (go_at_call 10; refine (WK.out _ HC.out).mono ?_; rintro e w8 ⟨rfl, hb⟩
               have hq := HC.out.trans (hb.mono HC.out.size)
               clear HC hb
               have HC := Lib.hid hq
               clear hq)
  go_ret
  exact ⟨rfl, HC.out⟩

set_option maxRecDepth 100000 in
set_option maxHeartbeats 8000000 in
theorem flateBack_fe (s q : ByteArray) (k : Int) (w : World) (hk : -9223372036854775808 ≤ k ∧ k ≤ 9223372036854775807) (ha : ¬ (1048576 : Int) < (s.size : Int)) (hb : ¬ (1048576 : Int) < (q.size : Int)) (hT : Tabs w) (hO : OrdAt w) (hG : Handle w)
    (hse : s.data.toList ≠ []) (hqe : q.data.toList = []) :
    Calls Tryd.prog 7 #[.string s, .string q, .int .i64 k] w fun e w' => e = .returned (.bool true) ∧ Below w.heap.size w w' := by
  have da : decide ((1048576 : Int) < (s.size : Int)) = false := decide_eq_false ha
  have db : decide ((1048576 : Int) < (q.size : Int)) = false := decide_eq_false hb
  have hss : s.size ≤ 1048576 := by omega
  have hqs : q.size ≤ 1048576 := by omega
  have qs := qfull hse
  have qq := qempty hqe
  have tb : ∀ W, Below w.heap.size w W → Tabs W ∧ OrdAt W ∧ Handle W := fun W hb => ⟨(tabs_below hT hO hb).1, (tabs_below hT hO hb).2, hG.below hb (Nat.le_refl _)⟩
  obtain ⟨d, hd⟩ : ∃ d, d = bs (deflateP s.data.toList) := ⟨_, rfl⟩
  obtain ⟨z, hz⟩ : ∃ z, z = bs (gzipP s.data.toList) := ⟨_, rfl⟩
  have hdl : (deflateP s.data.toList).length = d.size := by rw [hd]; rfl
  have hzl : z.size = d.size + 18 := by rw [hz, ← hdl]; exact gzipP_length _
  have hds : d.size < 2147483648 := by rw [← hdl]; exact deflateP_small (by show s.size < _; omega)
  have hzz : ((z.size : Int) != (d.size : Int) + 18) = false := by rw [hzl]; simp
  have hzs : z.size < 2147483666 := by omega
  have c1 : ∀ W, Below w.heap.size w W → Calls Tryd.prog 9 #[.string s] W fun e w' => e = .returned (.string d) ∧ Below W.heap.size W w' := by
    intro W hW; rw [hd]; exact deflate_any s W (by omega) (tb W hW).1
  have c2 : ∀ W m, Below w.heap.size w W → (s.size : Int) ≤ m → m < 2 ^ 31 → Calls Tryd.prog 16 #[.string (d ++ q), .int .i64 m] W fun e w' => e = .returned (.tuple #[.string s, .int .i64 (d.size : Int), .nilIface]) ∧ Below W.heap.size W w' := by
    intro W m hW h1 h2; rw [← hdl, hd]; exact infl_ok s q m W hss hqs h1 (by omega) (tb W hW).1 (tb W hW).2.1
  have c3 : ∀ W, Below w.heap.size w W → Calls Tryd.prog 13 #[.string s] W fun e w' => e = .returned (.string z) ∧ Below W.heap.size W w' := by
    intro W hW; rw [hz]; exact gzip_any s W (by omega) (tb W hW).1
  have c4 : ∀ W m, Below w.heap.size w W → (s.size : Int) ≤ m → m < 2 ^ 31 → Calls Tryd.prog 19 #[.string z, .int .i64 m] W fun e w' => e = .returned (.tuple #[.string s, .nilIface]) ∧ Below W.heap.size W w' := by
    intro W m hW h1 h2; rw [hz]; exact gun_ok s m W hss h1 (by omega) (tb W hW).1 (tb W hW).2.1
  have c5 : ∀ W, Below w.heap.size w W → Calls Tryd.prog 19 #[.string (z ++ q), .int .i64 (s.size : Int)] W fun e w' => e = .returned (.tuple #[.string s, .nilIface]) ∧ Below W.heap.size W w' := by
    intro W hW; rw [hz]; exact gun_none s q W hss hqe (tb W hW).1 (tb W hW).2.1
  have hs1 := size_pos hse
  have c6 : ∀ W m, Below w.heap.size w W → 0 ≤ m → m < (s.size : Int) → Calls Tryd.prog 16 #[.string d, .int .i64 m] W fun e w' => e = .returned (.tuple #[.string ⟨#[]⟩, .int .i64 0, errV 5]) ∧ Below W.heap.size W w' := by
    intro W m hW h1 h2; rw [hd]; exact infl_no s m W hss h1 h2 (tb W hW).1 (tb W hW).2.1
  have c7 : ∀ W m, Below w.heap.size w W → 0 ≤ m → m < (s.size : Int) → Calls Tryd.prog 19 #[.string z, .int .i64 m] W fun e w' => e = .returned (.tuple #[.string ⟨#[]⟩, errV 5]) ∧ Below W.heap.size W w' := by
    intro W m hW h1 h2; rw [hz]; exact gun_no s m W hss h1 h2 (tb W hW).1 (tb W hW).2.1
  have p5 : ∀ W, Below w.heap.size w W → Calls Tryd.prog 17 #[errV 5, .int .i64 5] W fun e w' => e = .returned (.bool true) ∧ Below W.heap.size W w' := fun W hW => plain_same 5 W (by decide) (tb W hW).2.2
  have wk : ∀ W, Below w.heap.size w W → Calls Tryd.prog 10 #[] W fun e w' => e = .returned (.bool true) ∧ Below W.heap.size W w' := fun W hW => works_any W (tb W hW).1 (tb W hW).2.1
  have pk1 := fun W => pick_any k 2097152 W hk (by omega) (by omega)
  have HC := Lib.hid (Below.refl w.heap.size w)
  have C1 := Lib.hid c1
  have C2 := Lib.hid c2
  have C3 := Lib.hid c3
  have C4 := Lib.hid c4
  have C5 := Lib.hid c5
  have C6 := Lib.hid c6
  have C7 := Lib.hid c7
  have P5 := Lib.hid p5
  have WK := Lib.hid wk
  have PK1 := Lib.hid pk1
  clear c1 c2 c3 c4 c5 c6 c7 p5 wk pk1 tb hd hz hdl hzl hT hO hG hse hqe hk
  go_enter Tryd.func7, Tryd.ntmps7
  go_wp2_with (go_at_call 18; refine (PK1.out _).mono ?_; rintro e w0 ⟨m, hm0, hm1, rfl, rfl⟩; clear PK1)
  go_wp2_with (go_at_call 9; refine (C1.out _ HC.out).mono ?_; rintro e w1 ⟨rfl, hb⟩
               have hq := HC.out.trans (hb.mono HC.out.size)
               clear HC hb
               have HC := Lib.hid hq
               clear hq)
  have C2' := C2
  go_wp2_with (go_at_call 16; refine (C2.out _ _ HC.out (by omega) (by omega)).mono ?_; rintro e w2 ⟨rfl, hb⟩; clear C2
               have hq := HC.out.trans (hb.mono HC.out.size)
               clear HC hb
               have HC := Lib.hid hq
               clear hq)
  go_wp2_with (go_at_call 16; refine (C2'.out _ _ HC.out (by omega) (by omega)).mono ?_; rintro e w3 ⟨rfl, hb⟩; clear C2'
               have hq := HC.out.trans (hb.mono HC.out.size)
               clear HC hb
               have HC := Lib.hid hq
               clear hq)
  go_wp2_with (go_at_call 13; refine (C3.out _ HC.out).mono ?_; rintro e w4 ⟨rfl, hb⟩
               have hq := HC.out.trans (hb.mono HC.out.size)
               clear HC hb
               have HC := Lib.hid hq
               clear hq)
  go_wp2_with (go_at_call 19; refine (C4.out _ _ HC.out (by omega) (by omega)).mono ?_; rintro e w5 ⟨rfl, hb⟩; clear C4
               have hq := HC.out.trans (hb.mono HC.out.size)
               clear HC hb
               have HC := Lib.hid hq
               clear hq)
  go_wp2_with (go_at_call 19; refine (C5.out _ HC.out).mono ?_; rintro e w6 ⟨rfl, hb⟩; clear C5
               have hq := HC.out.trans (hb.mono HC.out.size)
               clear HC hb
               have HC := Lib.hid hq
               clear hq)
  have pk2 := fun W => pick_any m (s.size : Int) W (by omega) (by omega) (by omega)
  have PK2 := Lib.hid pk2
  clear pk2
  go_wp2_with (go_at_call 18; refine (PK2.out _).mono ?_; rintro e w9 ⟨m2, hm2, hm3, rfl, rfl⟩; clear PK2)
  go_wp2_with (go_at_call 16; refine (C6.out _ _ HC.out (by omega) (by omega)).mono ?_; rintro e w10 ⟨rfl, hb⟩; clear C6
               have hq := HC.out.trans (hb.mono HC.out.size)
               clear HC hb
               have HC := Lib.hid hq
               clear hq)
  go_wp2_with (go_at_call 19; refine (C7.out _ _ HC.out (by omega) (by omega)).mono ?_; rintro e w11 ⟨rfl, hb⟩; clear C7
               have hq := HC.out.trans (hb.mono HC.out.size)
               clear HC hb
               have HC := Lib.hid hq
               clear hq)
  have P5' := P5
  go_wp2_with (go_at_call 17; refine (P5.out _ HC.out).mono ?_; rintro e w12 ⟨rfl, hb⟩; clear P5
               have hq := HC.out.trans (hb.mono HC.out.size)
               clear HC hb
               have HC := Lib.hid hq
               clear hq)
  go_wp2_with (go_at_call 17; refine (P5'.out _ HC.out).mono ?_; rintro e w13 ⟨rfl, hb⟩; clear P5'
               have hq := HC.out.trans (hb.mono HC.out.size)
               clear HC hb
               have HC := Lib.hid hq
               clear hq)
  go_wp2_with (go_at_call 10; refine (WK.out _ HC.out).mono ?_; rintro e w14 ⟨rfl, hb⟩
               have hq := HC.out.trans (hb.mono HC.out.size)
               clear HC hb
               have HC := Lib.hid hq
               clear hq)
  go_ret
  exact ⟨rfl, HC.out⟩

set_option maxRecDepth 100000 in
set_option maxHeartbeats 8000000 in
theorem flateBack_ff (s q : ByteArray) (k : Int) (w : World) (hk : -9223372036854775808 ≤ k ∧ k ≤ 9223372036854775807) (ha : ¬ (1048576 : Int) < (s.size : Int)) (hb : ¬ (1048576 : Int) < (q.size : Int)) (hT : Tabs w) (hO : OrdAt w) (hG : Handle w)
    (hse : s.data.toList ≠ []) (hqe : q.data.toList ≠ []) :
    Calls Tryd.prog 7 #[.string s, .string q, .int .i64 k] w fun e w' => e = .returned (.bool true) ∧ Below w.heap.size w w' := by
  have da : decide ((1048576 : Int) < (s.size : Int)) = false := decide_eq_false ha
  have db : decide ((1048576 : Int) < (q.size : Int)) = false := decide_eq_false hb
  have hss : s.size ≤ 1048576 := by omega
  have hqs : q.size ≤ 1048576 := by omega
  have qs := qfull hse
  have qq := qfull hqe
  have tb : ∀ W, Below w.heap.size w W → Tabs W ∧ OrdAt W ∧ Handle W := fun W hb => ⟨(tabs_below hT hO hb).1, (tabs_below hT hO hb).2, hG.below hb (Nat.le_refl _)⟩
  obtain ⟨d, hd⟩ : ∃ d, d = bs (deflateP s.data.toList) := ⟨_, rfl⟩
  obtain ⟨z, hz⟩ : ∃ z, z = bs (gzipP s.data.toList) := ⟨_, rfl⟩
  have hdl : (deflateP s.data.toList).length = d.size := by rw [hd]; rfl
  have hzl : z.size = d.size + 18 := by rw [hz, ← hdl]; exact gzipP_length _
  have hds : d.size < 2147483648 := by rw [← hdl]; exact deflateP_small (by show s.size < _; omega)
  have hzz : ((z.size : Int) != (d.size : Int) + 18) = false := by rw [hzl]; simp
  have hzs : z.size < 2147483666 := by omega
  have c1 : ∀ W, Below w.heap.size w W → Calls Tryd.prog 9 #[.string s] W fun e w' => e = .returned (.string d) ∧ Below W.heap.size W w' := by
    intro W hW; rw [hd]; exact deflate_any s W (by omega) (tb W hW).1
  have c2 : ∀ W m, Below w.heap.size w W → (s.size : Int) ≤ m → m < 2 ^ 31 → Calls Tryd.prog 16 #[.string (d ++ q), .int .i64 m] W fun e w' => e = .returned (.tuple #[.string s, .int .i64 (d.size : Int), .nilIface]) ∧ Below W.heap.size W w' := by
    intro W m hW h1 h2; rw [← hdl, hd]; exact infl_ok s q m W hss hqs h1 (by omega) (tb W hW).1 (tb W hW).2.1
  have c3 : ∀ W, Below w.heap.size w W → Calls Tryd.prog 13 #[.string s] W fun e w' => e = .returned (.string z) ∧ Below W.heap.size W w' := by
    intro W hW; rw [hz]; exact gzip_any s W (by omega) (tb W hW).1
  have c4 : ∀ W m, Below w.heap.size w W → (s.size : Int) ≤ m → m < 2 ^ 31 → Calls Tryd.prog 19 #[.string z, .int .i64 m] W fun e w' => e = .returned (.tuple #[.string s, .nilIface]) ∧ Below W.heap.size W w' := by
    intro W m hW h1 h2; rw [hz]; exact gun_ok s m W hss h1 (by omega) (tb W hW).1 (tb W hW).2.1
  have c5 : ∀ W, Below w.heap.size w W → Calls Tryd.prog 19 #[.string (z ++ q), .int .i64 (s.size : Int)] W fun e w' => e = .returned (.tuple #[.string ⟨#[]⟩, errV 3]) ∧ Below W.heap.size W w' := by
    intro W hW; rw [hz]; exact gun_more s q W hss hqs hqe (tb W hW).1 (tb W hW).2.1
  have p3 : ∀ W, Below w.heap.size w W → Calls Tryd.prog 17 #[errV 3, .int .i64 3] W fun e w' => e = .returned (.bool true) ∧ Below W.heap.size W w' := fun W hW => plain_same 3 W (by decide) (tb W hW).2.2
  have hs1 := size_pos hse
  have c6 : ∀ W m, Below w.heap.size w W → 0 ≤ m → m < (s.size : Int) → Calls Tryd.prog 16 #[.string d, .int .i64 m] W fun e w' => e = .returned (.tuple #[.string ⟨#[]⟩, .int .i64 0, errV 5]) ∧ Below W.heap.size W w' := by
    intro W m hW h1 h2; rw [hd]; exact infl_no s m W hss h1 h2 (tb W hW).1 (tb W hW).2.1
  have c7 : ∀ W m, Below w.heap.size w W → 0 ≤ m → m < (s.size : Int) → Calls Tryd.prog 19 #[.string z, .int .i64 m] W fun e w' => e = .returned (.tuple #[.string ⟨#[]⟩, errV 5]) ∧ Below W.heap.size W w' := by
    intro W m hW h1 h2; rw [hz]; exact gun_no s m W hss h1 h2 (tb W hW).1 (tb W hW).2.1
  have p5 : ∀ W, Below w.heap.size w W → Calls Tryd.prog 17 #[errV 5, .int .i64 5] W fun e w' => e = .returned (.bool true) ∧ Below W.heap.size W w' := fun W hW => plain_same 5 W (by decide) (tb W hW).2.2
  have wk : ∀ W, Below w.heap.size w W → Calls Tryd.prog 10 #[] W fun e w' => e = .returned (.bool true) ∧ Below W.heap.size W w' := fun W hW => works_any W (tb W hW).1 (tb W hW).2.1
  have pk1 := fun W => pick_any k 2097152 W hk (by omega) (by omega)
  have HC := Lib.hid (Below.refl w.heap.size w)
  have C1 := Lib.hid c1
  have C2 := Lib.hid c2
  have C3 := Lib.hid c3
  have C4 := Lib.hid c4
  have C5 := Lib.hid c5
  have P3 := Lib.hid p3
  have C6 := Lib.hid c6
  have C7 := Lib.hid c7
  have P5 := Lib.hid p5
  have WK := Lib.hid wk
  have PK1 := Lib.hid pk1
  clear c1 c2 c3 c4 c5 p3 c6 c7 p5 wk pk1 tb hd hz hdl hzl hT hO hG hse hqe hk
  go_enter Tryd.func7, Tryd.ntmps7
  go_wp2_with (go_at_call 18; refine (PK1.out _).mono ?_; rintro e w0 ⟨m, hm0, hm1, rfl, rfl⟩; clear PK1)
  go_wp2_with (go_at_call 9; refine (C1.out _ HC.out).mono ?_; rintro e w1 ⟨rfl, hb⟩
               have hq := HC.out.trans (hb.mono HC.out.size)
               clear HC hb
               have HC := Lib.hid hq
               clear hq)
  have C2' := C2
  go_wp2_with (go_at_call 16; refine (C2.out _ _ HC.out (by omega) (by omega)).mono ?_; rintro e w2 ⟨rfl, hb⟩; clear C2
               have hq := HC.out.trans (hb.mono HC.out.size)
               clear HC hb
               have HC := Lib.hid hq
               clear hq)
  go_wp2_with (go_at_call 16; refine (C2'.out _ _ HC.out (by omega) (by omega)).mono ?_; rintro e w3 ⟨rfl, hb⟩; clear C2'
               have hq := HC.out.trans (hb.mono HC.out.size)
               clear HC hb
               have HC := Lib.hid hq
               clear hq)
  go_wp2_with (go_at_call 13; refine (C3.out _ HC.out).mono ?_; rintro e w4 ⟨rfl, hb⟩
               have hq := HC.out.trans (hb.mono HC.out.size)
               clear HC hb
               have HC := Lib.hid hq
               clear hq)
  go_wp2_with (go_at_call 19; refine (C4.out _ _ HC.out (by omega) (by omega)).mono ?_; rintro e w5 ⟨rfl, hb⟩; clear C4
               have hq := HC.out.trans (hb.mono HC.out.size)
               clear HC hb
               have HC := Lib.hid hq
               clear hq)
  go_wp2_with (go_at_call 19; refine (C5.out _ HC.out).mono ?_; rintro e w6 ⟨rfl, hb⟩; clear C5
               have hq := HC.out.trans (hb.mono HC.out.size)
               clear HC hb
               have HC := Lib.hid hq
               clear hq)
  go_wp2_with (go_at_call 17; refine (P3.out _ HC.out).mono ?_; rintro e w7 ⟨rfl, hb⟩; clear P3
               have hq := HC.out.trans (hb.mono HC.out.size)
               clear HC hb
               have HC := Lib.hid hq
               clear hq)
  have pk2 := fun W => pick_any m (s.size : Int) W (by omega) (by omega) (by omega)
  have PK2 := Lib.hid pk2
  clear pk2
  go_wp2_with (go_at_call 18; refine (PK2.out _).mono ?_; rintro e w9 ⟨m2, hm2, hm3, rfl, rfl⟩; clear PK2)
  go_wp2_with (go_at_call 16; refine (C6.out _ _ HC.out (by omega) (by omega)).mono ?_; rintro e w10 ⟨rfl, hb⟩; clear C6
               have hq := HC.out.trans (hb.mono HC.out.size)
               clear HC hb
               have HC := Lib.hid hq
               clear hq)
  go_wp2_with (go_at_call 19; refine (C7.out _ _ HC.out (by omega) (by omega)).mono ?_; rintro e w11 ⟨rfl, hb⟩; clear C7
               have hq := HC.out.trans (hb.mono HC.out.size)
               clear HC hb
               have HC := Lib.hid hq
               clear hq)
  have P5' := P5
  go_wp2_with (go_at_call 17; refine (P5.out _ HC.out).mono ?_; rintro e w12 ⟨rfl, hb⟩; clear P5
               have hq := HC.out.trans (hb.mono HC.out.size)
               clear HC hb
               have HC := Lib.hid hq
               clear hq)
  go_wp2_with (go_at_call 17; refine (P5'.out _ HC.out).mono ?_; rintro e w13 ⟨rfl, hb⟩; clear P5'
               have hq := HC.out.trans (hb.mono HC.out.size)
               clear HC hb
               have HC := Lib.hid hq
               clear hq)
  go_wp2_with (go_at_call 10; refine (WK.out _ HC.out).mono ?_; rintro e w14 ⟨rfl, hb⟩
               have hq := HC.out.trans (hb.mono HC.out.size)
               clear HC hb
               have HC := Lib.hid hq
               clear hq)
  go_ret
  exact ⟨rfl, HC.out⟩

theorem flateBack_any (s q : ByteArray) (k : Int) (w : World) (hk : -9223372036854775808 ≤ k ∧ k ≤ 9223372036854775807) (hT : Tabs w) (hO : OrdAt w) (hG : Handle w) :
    Calls Tryd.prog 7 #[.string s, .string q, .int .i64 k] w fun e w' => e = .returned (.bool true) ∧ Below w.heap.size w w' := by
  by_cases ha : (1048576 : Int) < (s.size : Int)
  · exact flateBack_big1 s q k w ha
  · by_cases hb : (1048576 : Int) < (q.size : Int)
    · exact flateBack_big2 s q k w ha hb
    · by_cases hse : s.data.toList = []
      · by_cases hqe : q.data.toList = []
        · exact flateBack_ee s q k w hk ha hb hT hO hG hse hqe
        · exact flateBack_ef s q k w hk ha hb hT hO hG hse hqe
      · by_cases hqe : q.data.toList = []
        · exact flateBack_fe s q k w hk ha hb hT hO hG hse hqe
        · exact flateBack_ff s q k w hk ha hb hT hO hG hse hqe
end Go.Proofs.YtjielagabnkimaaDoor
