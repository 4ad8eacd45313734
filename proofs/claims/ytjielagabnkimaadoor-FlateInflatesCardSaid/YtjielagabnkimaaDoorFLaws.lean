/- What FlateCrcs and FlateBack answer: true. -/
import Derived.Test.YtjielagabnkimaaDoorFWorks
import Derived.Test.YtjielagabnkimaaDoorPlain
set_option linter.unusedSimpArgs false
set_option linter.unusedVariables false
namespace Go.Proofs.YtjielagabnkimaaDoor
open Go.RowKit
theorem tabs_below {w W : World} (hT : Tabs w) (hO : OrdAt w) (hb : Below w.heap.size w W) : Tabs W ∧ OrdAt W := by
  have h4 := hT.2.2
  refine ⟨⟨hT.1.below hb (by omega), hT.2.1.below hb (by omega), Nat.lt_of_lt_of_le h4 hb.size⟩, fun i hi => ?_⟩
  rw [hb.cell (p := ⟨3, i, none⟩) (by show 3 < _; omega)]
  exact hO i hi

set_option maxRecDepth 100000 in
set_option maxHeartbeats 4000000 in
theorem flateCrcs_any (s : ByteArray) (w : World) (hs : s.size ≤ 9223372036854775807) (hT : Tabs w) (hO : OrdAt w) :
    Calls Tryd.prog 4 #[.string s] w fun e w' => e = .returned (.bool true) ∧ Below w.heap.size w w' := by
  by_cases hbig : (1048576 : Int) < (s.size : Int)
  · clear hT hO
    go_enter Tryd.func4, Tryd.ntmps4
    go_wp2_with fail
    go_ret
    exact ⟨rfl, Below.refl _ _⟩
  · have h1 := fun W => crc_any s W (by omega)
    have h2 := fun W => rcrc_any s W (by omega)
    obtain ⟨c, hc⟩ : ∃ c, c = crcP s.data.toList := ⟨_, rfl⟩
    rw [← hc] at h1 h2
    have h3 := fun W hb => works_any W (tabs_below (W := W) hT hO hb).1 (tabs_below hT hO hb).2
    have HC := Lib.hid (Below.refl w.heap.size w)
    have H1 := Lib.hid h1
    have H2 := Lib.hid h2
    have H3 := Lib.hid h3
    clear h1 h2 h3 hc hT hO
    go_enter Tryd.func4, Tryd.ntmps4
    go_wp2_with (first
      | (go_at_call 11; refine (H1.out _).mono ?_; rintro e w1 ⟨rfl, hb⟩
         have hq := HC.out.trans (hb.mono HC.out.size)
         clear HC hb
         have HC := Lib.hid hq
         clear hq)
      | (go_at_call 12; refine (H2.out _).mono ?_; rintro e w2 ⟨rfl, rfl⟩)
      | (go_at_call 10; refine (H3.out _ HC.out).mono ?_; rintro e w3 ⟨rfl, hb⟩
         have hq := HC.out.trans (hb.mono HC.out.size)
         clear HC hb
         have HC := Lib.hid hq
         clear hq))
    go_ret
    exact ⟨rfl, HC.out⟩
/-- what was compressed comes again -/
theorem infl_ok (s q : ByteArray) (m : Int) (W : World) (hs : s.size ≤ 1048576) (hq : q.size ≤ 1048576) (hm : (s.size : Int) ≤ m) (hm2 : m < 2 ^ 40) (hT : Tabs W) (hO : OrdAt W) :
    Calls Tryd.prog 16 #[.string (bs (deflateP s.data.toList) ++ q), .int .i64 m] W fun e w' => e = .returned (.tuple #[.string s, .int .i64 (((deflateP s.data.toList).length : Nat) : Int), .nilIface]) ∧ Below W.heap.size W w' := by
  have hl := deflateP_small (s := s.data.toList) (by show s.size < _; omega)
  have h := inflate_any (bs (deflateP s.data.toList) ++ q) m W (by rw [append_bs]; show (deflateP s.data.toList ++ q.data.toList).length < _; rw [List.length_append]; show _ + q.size < _; omega) hm2 hT hO
  have e : (bs (deflateP s.data.toList) ++ q).data.toList = deflateP s.data.toList ++ q.data.toList := by rw [append_bs]; rfl
  rw [e, infl_back _ _ _ (by omega), if_pos (show (s.data.toList.length : Int) ≤ m from hm)] at h
  refine h.mono fun e w' ⟨a, b⟩ => ⟨b.trans ?_, a⟩
  rw [show (⟨s.data.toList.toArray⟩ : ByteArray) = s from bs_of s]
theorem infl_no (s : ByteArray) (m : Int) (W : World) (hs : s.size ≤ 1048576) (hm0 : 0 ≤ m) (hm : m < (s.size : Int)) (hT : Tabs W) (hO : OrdAt W) :
    Calls Tryd.prog 16 #[.string (bs (deflateP s.data.toList)), .int .i64 m] W fun e w' => e = .returned (.tuple #[.string ⟨#[]⟩, .int .i64 0, errV 5]) ∧ Below W.heap.size W w' := by
  have hl := deflateP_small (s := s.data.toList) (by show s.size < _; omega)
  have h := inflate_any (bs (deflateP s.data.toList)) m W (by show (deflateP s.data.toList).length < _; omega) (by omega) hT hO
  have hb := infl_back s.data.toList [] m hm0
  rw [List.append_nil, if_neg (show ¬ (s.data.toList.length : Int) ≤ m from by show ¬ (s.size : Int) ≤ m; omega)] at hb
  rw [show (bs (deflateP s.data.toList)).data.toList = deflateP s.data.toList from rfl, hb] at h
  exact h.mono fun e w' ⟨a, b⟩ => ⟨b, a⟩
theorem gun_any (s q : ByteArray) (m : Int) (W : World) (hs : s.size ≤ 1048576) (hq : q.size ≤ 1048576) (hm0 : 0 ≤ m) (hm2 : m < 2 ^ 32) (hT : Tabs W) (hO : OrdAt W) :
    Calls Tryd.prog 19 #[.string (bs (gzipP s.data.toList ++ q.data.toList)), .int .i64 m] W fun e w' => GunOut W (if (s.data.toList.length : Int) ≤ m then (if q.data.toList = [] then .ok s.data.toList else .error 3) else .error 5) e w' := by
  have hl := deflateP_small (s := s.data.toList) (by show s.size < _; omega)
  have hss : s.data.toList.length = s.size := rfl
  have hqq : q.data.toList.length = q.size := rfl
  have h := gunzip_any (deflateP s.data.toList ++ (tailL s.data.toList ++ q.data.toList)) m W (by rw [List.length_append, List.length_append, tailL_length, hqq]; omega) hm2 hT hO (fun t n ht => by
    rw [infl_back _ _ _ hm0] at ht
    split at ht
    · injection ht with ht
      injection ht with h1 h2
      rw [← h1, ← h2, List.length_append]
      omega
    · cases ht)
  rw [gun_back _ _ _ hm0] at h
  rw [show gzipP s.data.toList ++ q.data.toList = frameL ++ (deflateP s.data.toList ++ (tailL s.data.toList ++ q.data.toList)) from by unfold gzipP; simp only [List.append_assoc]]
  exact h
theorem gun_ok (s : ByteArray) (m : Int) (W : World) (hs : s.size ≤ 1048576) (hm : (s.size : Int) ≤ m) (hm2 : m < 2 ^ 32) (hT : Tabs W) (hO : OrdAt W) :
    Calls Tryd.prog 19 #[.string (bs (gzipP s.data.toList)), .int .i64 m] W fun e w' => e = .returned (.tuple #[.string s, .nilIface]) ∧ Below W.heap.size W w' := by
  have h := gun_any s ⟨#[]⟩ m W hs (by decide) (by omega) hm2 hT hO
  rw [show (⟨#[]⟩ : ByteArray).data.toList = [] from rfl, List.append_nil, if_pos (show (s.data.toList.length : Int) ≤ m from hm), if_pos rfl] at h
  refine h.mono fun e w' ⟨a, b⟩ => ⟨b.trans ?_, a⟩
  rw [bs_of s]
theorem gun_no (s : ByteArray) (m : Int) (W : World) (hs : s.size ≤ 1048576) (hm0 : 0 ≤ m) (hm : m < (s.size : Int)) (hT : Tabs W) (hO : OrdAt W) :
    Calls Tryd.prog 19 #[.string (bs (gzipP s.data.toList)), .int .i64 m] W fun e w' => e = .returned (.tuple #[.string ⟨#[]⟩, errV 5]) ∧ Below W.heap.size W w' := by
  have h := gun_any s ⟨#[]⟩ m W hs (by decide) hm0 (by omega) hT hO
  rw [show (⟨#[]⟩ : ByteArray).data.toList = [] from rfl, List.append_nil, if_neg (show ¬ (s.data.toList.length : Int) ≤ m from by show ¬ (s.size : Int) ≤ m; omega)] at h
  exact h.mono fun e w' ⟨a, b⟩ => ⟨b, a⟩
theorem gun_more (s q : ByteArray) (W : World) (hs : s.size ≤ 1048576) (hq : q.size ≤ 1048576) (hq0 : q.data.toList ≠ []) (hT : Tabs W) (hO : OrdAt W) :
    Calls Tryd.prog 19 #[.string (bs (gzipP s.data.toList) ++ q), .int .i64 (s.size : Int)] W fun e w' => e = .returned (.tuple #[.string ⟨#[]⟩, errV 3]) ∧ Below W.heap.size W w' := by
  have h := gun_any s q (s.size : Int) W hs hq (by omega) (by omega) hT hO
  rw [if_pos (show (s.data.toList.length : Int) ≤ (s.size : Int) from Int.le_refl _), if_neg hq0] at h
  rw [append_bs]
  exact h.mono fun e w' ⟨a, b⟩ => ⟨b, a⟩
theorem gun_none (s q : ByteArray) (W : World) (hs : s.size ≤ 1048576) (hq0 : q.data.toList = []) (hT : Tabs W) (hO : OrdAt W) :
    Calls Tryd.prog 19 #[.string (bs (gzipP s.data.toList) ++ q), .int .i64 (s.size : Int)] W fun e w' => e = .returned (.tuple #[.string s, .nilIface]) ∧ Below W.heap.size W w' := by
  have h := gun_ok s (s.size : Int) W hs (Int.le_refl _) (by omega) hT hO
  rw [append_bs, hq0, List.append_nil]
  exact h
/-- some number below n -/
def Below0 (n : Int) (w : World) (e : Ending) (w' : World) : Prop := ∃ r : Int, 0 ≤ r ∧ r < n ∧ e = .returned (.int .i64 r) ∧ w = w'

set_option maxRecDepth 100000 in
set_option maxHeartbeats 2000000 in
theorem pick_any (k n : Int) (w : World) (hk : -9223372036854775808 ≤ k ∧ k ≤ 9223372036854775807) (h1 : 1 ≤ n) (h2 : n < 1099511627776) :
    Calls Tryd.prog 18 #[.int .i64 k, .int .i64 n] w fun e w' => Below0 n w e w' := by
  have hr1 : -n < k.tmod n ∧ k.tmod n < n := ⟨Int.lt_of_lt_of_le (by omega) (Int.le_refl _) |> fun h => (by have := Int.lt_tmod_of_pos k (show 0 < n by omega); exact this), Int.tmod_lt_of_pos k (by omega)⟩
  obtain ⟨r, hr⟩ : ∃ r, r = k.tmod n := ⟨_, rfl⟩
  rw [← hr] at hr1
  obtain ⟨ra, rb⟩ := hr1
  have hn0 : ¬ n < 1 := by omega
  have hn1 : ¬ n = 0 := by omega
  have hrw : IntKind.i64.wrap (k.tmod n) = r := by rw [← hr]; exact IntWalk.i64_in _ (by omega)
  have hr' := hr.symm
  clear hr
  by_cases hneg : r < 0
  · go_enter Tryd.func18, Tryd.ntmps18
    go_wp2_with fail
    go_ret
    exact ⟨r + n, by omega, by omega, rfl, rfl⟩
  · go_enter Tryd.func18, Tryd.ntmps18
    go_wp2_with fail
    go_ret
    exact ⟨r, by omega, by omega, rfl, rfl⟩
end Go.Proofs.YtjielagabnkimaaDoor
