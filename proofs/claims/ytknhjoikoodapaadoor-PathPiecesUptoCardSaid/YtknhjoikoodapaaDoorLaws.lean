/- The walks of PathNames, PathSplits, PathParts, PathChecks, PathCleans, PathHolds. -/
import Derived.Test.YtknhjoikoodapaaDoorWorks
set_option linter.unusedSimpArgs false
set_option linter.unusedVariables false
namespace Go.Proofs.YtknhjoikoodapaaDoor
open Go.RowKit
open Go.Lib hiding intOf

theorem nameNo_le (l : List UInt8) : nameNo l ≤ 32 := by unfold nameNo; split <;> omega
theorem splitNo_le (l : List UInt8) : (splitP l).2.2 ≤ 32 := by
  unfold splitP
  repeat (first | (simp only []; omega) | split)
theorem checkNo_le (l : List UInt8) : checkNo l ≤ 32 := by
  unfold checkNo
  repeat (first | omega | exact splitNo_le _ | split)
theorem same_below {P : Program} {f : FuncId} {args : Array Value} {w : World} {v : Value} (h : Calls P f args w fun e w' => e = .returned v ∧ Same w w') : Calls P f args w fun e w' => e = .returned v ∧ Below w.heap.size w w' :=
  h.mono fun e w' ⟨a, b⟩ => ⟨a, b.below _⟩
theorem eq_below {P : Program} {f : FuncId} {args : Array Value} {w : World} {v : Value} (h : Calls P f args w fun e w' => e = .returned v ∧ w = w') : Calls P f args w fun e w' => e = .returned v ∧ Below w.heap.size w w' :=
  h.mono fun e w' ⟨a, b⟩ => ⟨a, b ▸ Below.refl _ _⟩

set_option maxRecDepth 100000 in
set_option maxHeartbeats 4000000 in
theorem pathNames_any (s : ByteArray) (w : World) (hs : s.size ≤ 9223372036854775807) (hg : Handle w) :
    Calls Tryd.prog 3 #[.string s] w fun e w' => e = .returned (.bool true) ∧ Below w.heap.size w w' := by
  obtain ⟨n, hn⟩ : ∃ n, n = nameNo s.data.toList := ⟨_, rfl⟩
  have hn32 : n ≤ 32 := by rw [hn]; exact nameNo_le _
  have c1 := fun W => name_any s W hs
  have c2 := fun W => eq_below (rname_any s W hs)
  have c3 := fun W => plain_same n W hn32
  rw [← hn] at c1 c2
  have C1 := Lib.hid c1
  have C2 := Lib.hid c2
  have C3 := Lib.hid c3
  clear c1 c2 c3 hn
  have H0 := Lib.hid hg
  have B0 := Lib.hid (Below.refl w.heap.size w)
  clear hg
  go_enter Tryd.func3, Tryd.ntmps3
  go_wp2_with fail
  refine (C1.out _).mono ?_
  rintro e w1 ⟨rfl, hb⟩
  have H1 := Lib.hid (H0.out.step hb)
  have B1 := Lib.hid (below_step B0.out hb (Nat.le_refl _))
  clear hb
  go_wp2_with fail
  refine (C2.out _).mono ?_
  rintro e w2 ⟨rfl, hb⟩
  have H2 := Lib.hid (H1.out.step hb)
  have B2 := Lib.hid (below_step B1.out hb (Nat.le_refl _))
  clear hb
  go_wp2_with fail
  refine (C3.out _ H2.out).mono ?_
  rintro e w3 ⟨rfl, hb⟩
  have H3 := Lib.hid (H2.out.step hb)
  have B3 := Lib.hid (below_step B2.out hb (Nat.le_refl _))
  clear hb
  go_wp2_with fail
  refine (works_any _ H3.out).mono ?_
  rintro e w4 ⟨rfl, hb⟩
  have B4 := Lib.hid (below_step B3.out hb (Nat.le_refl _))
  clear hb
  go_wp2_with fail
  go_ret
  exact ⟨rfl, B4.out⟩

set_option maxRecDepth 100000 in
set_option maxHeartbeats 4000000 in
theorem pathSplits_any (s : ByteArray) (w : World) (hs : s.size ≤ 9223372036854775807) (hg : Handle w) :
    Calls Tryd.prog 5 #[.string s] w fun e w' => e = .returned (.bool true) ∧ Below w.heap.size w w' := by
  obtain ⟨n, hn⟩ : ∃ n, n = (splitP s.data.toList).2.2 := ⟨_, rfl⟩
  obtain ⟨x, hx⟩ : ∃ x, x = bs (splitP s.data.toList).1 := ⟨_, rfl⟩
  obtain ⟨y, hy⟩ : ∃ y, y = bs (splitP s.data.toList).2.1 := ⟨_, rfl⟩
  have hn32 : n ≤ 32 := by rw [hn]; exact splitNo_le _
  have c1 := fun W => same_below (rsplit_any s W hs)
  have c2 := fun W => same_below (split_any s W hs)
  have c3 := fun W => plain_same n W hn32
  rw [← hn, ← hx, ← hy] at c1 c2
  have C1 := Lib.hid c1
  have C2 := Lib.hid c2
  have C3 := Lib.hid c3
  clear c1 c2 c3 hn hx hy
  have H0 := Lib.hid hg
  have B0 := Lib.hid (Below.refl w.heap.size w)
  clear hg
  go_enter Tryd.func5, Tryd.ntmps5
  go_wp2_with fail
  refine (C1.out _).mono ?_
  rintro e w1 ⟨rfl, hb⟩
  have H1 := Lib.hid (H0.out.step hb)
  have B1 := Lib.hid (below_step B0.out hb (Nat.le_refl _))
  clear hb
  go_wp2_with fail
  refine (C2.out _).mono ?_
  rintro e w2 ⟨rfl, hb⟩
  have H2 := Lib.hid (H1.out.step hb)
  have B2 := Lib.hid (below_step B1.out hb (Nat.le_refl _))
  clear hb
  go_wp2_with fail
  refine (C3.out _ H2.out).mono ?_
  rintro e w3 ⟨rfl, hb⟩
  have H3 := Lib.hid (H2.out.step hb)
  have B3 := Lib.hid (below_step B2.out hb (Nat.le_refl _))
  clear hb
  go_wp2_with fail
  refine (works_any _ H3.out).mono ?_
  rintro e w4 ⟨rfl, hb⟩
  have B4 := Lib.hid (below_step B3.out hb (Nat.le_refl _))
  clear hb
  go_wp2_with fail
  go_ret
  exact ⟨rfl, B4.out⟩

set_option maxRecDepth 100000 in
set_option maxHeartbeats 4000000 in
theorem pathParts_any (p q : ByteArray) (w : World) (hp : p.size ≤ 1099511627776) (hq : q.size ≤ 1099511627776) (hg : Handle w) :
    Calls Tryd.prog 6 #[.string p, .string q] w fun e w' => e = .returned (.bool true) ∧ Below w.heap.size w w' := by
  obtain ⟨x, hx⟩ : ∃ x, x = bs (parent p.data.toList) := ⟨_, rfl⟩
  obtain ⟨y, hy⟩ : ∃ y, y = bs (lastName p.data.toList) := ⟨_, rfl⟩
  obtain ⟨z, hz⟩ : ∃ z, z = bs (joinP p.data.toList q.data.toList) := ⟨_, rfl⟩
  have c1 := fun W => eq_below (parent_any p W (by omega))
  have c2 := fun W => eq_below (rparent_any p W (by omega))
  have c3 := fun W => eq_below (last_any p W (by omega))
  have c4 := fun W => eq_below (rlast_any p W (by omega))
  have c5 := fun W => eq_below (join_any p q W (by omega))
  have c6 := fun W => eq_below (rjoin_any p q W (by omega))
  rw [← hx] at c1 c2
  rw [← hy] at c3 c4
  rw [← hz] at c5 c6
  have C1 := Lib.hid c1
  have C2 := Lib.hid c2
  have C3 := Lib.hid c3
  have C4 := Lib.hid c4
  have C5 := Lib.hid c5
  have C6 := Lib.hid c6
  clear c1 c2 c3 c4 c5 c6 hx hy hz
  have H0 := Lib.hid hg
  have B0 := Lib.hid (Below.refl w.heap.size w)
  clear hg
  go_enter Tryd.func6, Tryd.ntmps6
  go_wp2_with fail
  refine (C1.out _).mono ?_
  rintro e w1 ⟨rfl, hb⟩
  have H1 := Lib.hid (H0.out.step hb)
  have B1 := Lib.hid (below_step B0.out hb (Nat.le_refl _))
  clear hb
  go_wp2_with fail
  refine (C2.out _).mono ?_
  rintro e w2 ⟨rfl, hb⟩
  have H2 := Lib.hid (H1.out.step hb)
  have B2 := Lib.hid (below_step B1.out hb (Nat.le_refl _))
  clear hb
  go_wp2_with fail
  refine (C3.out _).mono ?_
  rintro e w3 ⟨rfl, hb⟩
  have H3 := Lib.hid (H2.out.step hb)
  have B3 := Lib.hid (below_step B2.out hb (Nat.le_refl _))
  clear hb
  go_wp2_with fail
  refine (C4.out _).mono ?_
  rintro e w4 ⟨rfl, hb⟩
  have H4 := Lib.hid (H3.out.step hb)
  have B4 := Lib.hid (below_step B3.out hb (Nat.le_refl _))
  clear hb
  go_wp2_with fail
  refine (C5.out _).mono ?_
  rintro e w5 ⟨rfl, hb⟩
  have H5 := Lib.hid (H4.out.step hb)
  have B5 := Lib.hid (below_step B4.out hb (Nat.le_refl _))
  clear hb
  go_wp2_with fail
  refine (C6.out _).mono ?_
  rintro e w6 ⟨rfl, hb⟩
  have H6 := Lib.hid (H5.out.step hb)
  have B6 := Lib.hid (below_step B5.out hb (Nat.le_refl _))
  clear hb
  go_wp2_with fail
  refine (works_any _ H6.out).mono ?_
  rintro e w7 ⟨rfl, hb⟩
  have B7 := Lib.hid (below_step B6.out hb (Nat.le_refl _))
  clear hb
  go_wp2_with fail
  go_ret
  exact ⟨rfl, B7.out⟩

set_option maxRecDepth 100000 in
set_option maxHeartbeats 4000000 in
theorem pathChecks_any (s : ByteArray) (w : World) (hs : s.size ≤ 1099511627776) (hg : Handle w) :
    Calls Tryd.prog 4 #[.string s] w fun e w' => e = .returned (.bool true) ∧ Below w.heap.size w w' := by
  obtain ⟨n, hn⟩ : ∃ n, n = checkNo s.data.toList := ⟨_, rfl⟩
  have hn32 : n ≤ 32 := by rw [hn]; exact checkNo_le _
  have c1 := fun W => check_any s W (by omega)
  have c2 := fun W => rcheck_any s W hs
  have c3 := fun W => plain_same n W hn32
  rw [← hn] at c1 c2
  have C1 := Lib.hid c1
  have C2 := Lib.hid c2
  have C3 := Lib.hid c3
  clear c1 c2 c3 hn
  have H0 := Lib.hid hg
  have B0 := Lib.hid (Below.refl w.heap.size w)
  clear hg
  go_enter Tryd.func4, Tryd.ntmps4
  go_wp2_with fail
  refine (C1.out _).mono ?_
  rintro e w1 ⟨rfl, hb⟩
  have H1 := Lib.hid (H0.out.step hb)
  have B1 := Lib.hid (below_step B0.out hb (Nat.le_refl _))
  clear hb
  go_wp2_with fail
  refine (C2.out _).mono ?_
  rintro e w2 ⟨rfl, hb⟩
  have H2 := Lib.hid (H1.out.step hb)
  have B2 := Lib.hid (below_step B1.out hb (Nat.le_refl _))
  clear hb
  go_wp2_with fail
  refine (C3.out _ H2.out).mono ?_
  rintro e w3 ⟨rfl, hb⟩
  have H3 := Lib.hid (H2.out.step hb)
  have B3 := Lib.hid (below_step B2.out hb (Nat.le_refl _))
  clear hb
  go_wp2_with fail
  refine (works_any _ H3.out).mono ?_
  rintro e w4 ⟨rfl, hb⟩
  have B4 := Lib.hid (below_step B3.out hb (Nat.le_refl _))
  clear hb
  go_wp2_with fail
  go_ret
  exact ⟨rfl, B4.out⟩

set_option maxRecDepth 100000 in
set_option maxHeartbeats 4000000 in
theorem pathCleans_any (s : ByteArray) (w : World) (hs : s.size ≤ 1099511627776) (hg : Handle w) :
    Calls Tryd.prog 7 #[.string s] w fun e w' => e = .returned (.bool true) ∧ Below w.heap.size w w' := by
  obtain ⟨x, hx⟩ : ∃ x, x = bs (cleanP s.data.toList) := ⟨_, rfl⟩
  have c1 := fun W => clean_any s W hs
  have c2 := fun W => rclean_any s W hs
  rw [← hx] at c1 c2
  have C1 := Lib.hid c1
  have C2 := Lib.hid c2
  clear c1 c2 hx
  have H0 := Lib.hid hg
  have B0 := Lib.hid (Below.refl w.heap.size w)
  clear hg
  go_enter Tryd.func7, Tryd.ntmps7
  go_wp2_with fail
  refine (C1.out _).mono ?_
  rintro e w1 ⟨rfl, hb⟩
  have H1 := Lib.hid (H0.out.step hb)
  have B1 := Lib.hid (below_step B0.out hb (Nat.le_refl _))
  clear hb
  go_wp2_with fail
  refine (C2.out _).mono ?_
  rintro e w2 ⟨rfl, hb⟩
  have H2 := Lib.hid (H1.out.step hb)
  have B2 := Lib.hid (below_step B1.out hb (Nat.le_refl _))
  clear hb
  go_wp2_with fail
  refine (works_any _ H2.out).mono ?_
  rintro e w3 ⟨rfl, hb⟩
  have B3 := Lib.hid (below_step B2.out hb (Nat.le_refl _))
  clear hb
  go_wp2_with fail
  go_ret
  exact ⟨rfl, B3.out⟩

set_option maxRecDepth 100000 in
set_option maxHeartbeats 4000000 in
theorem pathHolds_any (p q : ByteArray) (w : World) (hp : p.size ≤ 1099511627776) (hq : q.size ≤ 1099511627776) (hg : Handle w) :
    Calls Tryd.prog 8 #[.string p, .string q] w fun e w' => e = .returned (.bool true) ∧ Below w.heap.size w w' := by
  obtain ⟨x, hx⟩ : ∃ x, x = compareP p.data.toList q.data.toList := ⟨_, rfl⟩
  obtain ⟨y, hy⟩ : ∃ y, y = compareP q.data.toList p.data.toList := ⟨_, rfl⟩
  obtain ⟨z, hz⟩ : ∃ z, z = belowP p.data.toList q.data.toList := ⟨_, rfl⟩
  obtain ⟨u, hu⟩ : ∃ u, u = belowP q.data.toList p.data.toList := ⟨_, rfl⟩
  have c1 := fun W => same_below (compare_any p q W (by omega) (by omega))
  have c2 := fun W => rcompare_any p q W hp hq
  have c3 := fun W => same_below (compare_any q p W (by omega) (by omega))
  have c4 := fun W => rcompare_any q p W hq hp
  have c5 := fun W => eq_below (below_any p q W (by omega) (by omega))
  have c6 := fun W => eq_below (rbelow_any p q W (by omega) (by omega))
  have c7 := fun W => eq_below (below_any q p W (by omega) (by omega))
  have c8 := fun W => eq_below (rbelow_any q p W (by omega) (by omega))
  rw [← hx] at c1 c2
  rw [← hy] at c3 c4
  rw [← hz] at c5 c6
  rw [← hu] at c7 c8
  have C1 := Lib.hid c1
  have C2 := Lib.hid c2
  have C3 := Lib.hid c3
  have C4 := Lib.hid c4
  have C5 := Lib.hid c5
  have C6 := Lib.hid c6
  have C7 := Lib.hid c7
  have C8 := Lib.hid c8
  clear c1 c2 c3 c4 c5 c6 c7 c8 hx hy hz hu
  have H0 := Lib.hid hg
  have B0 := Lib.hid (Below.refl w.heap.size w)
  clear hg
  go_enter Tryd.func8, Tryd.ntmps8
  go_wp2_with fail
  refine (C1.out _).mono ?_
  rintro e w1 ⟨rfl, hb⟩
  have H1 := Lib.hid (H0.out.step hb)
  have B1 := Lib.hid (below_step B0.out hb (Nat.le_refl _))
  clear hb
  go_wp2_with fail
  refine (C2.out _).mono ?_
  rintro e w2 ⟨rfl, hb⟩
  have H2 := Lib.hid (H1.out.step hb)
  have B2 := Lib.hid (below_step B1.out hb (Nat.le_refl _))
  clear hb
  go_wp2_with fail
  refine (C3.out _).mono ?_
  rintro e w3 ⟨rfl, hb⟩
  have H3 := Lib.hid (H2.out.step hb)
  have B3 := Lib.hid (below_step B2.out hb (Nat.le_refl _))
  clear hb
  go_wp2_with fail
  refine (C4.out _).mono ?_
  rintro e w4 ⟨rfl, hb⟩
  have H4 := Lib.hid (H3.out.step hb)
  have B4 := Lib.hid (below_step B3.out hb (Nat.le_refl _))
  clear hb
  go_wp2_with fail
  refine (C5.out _).mono ?_
  rintro e w5 ⟨rfl, hb⟩
  have H5 := Lib.hid (H4.out.step hb)
  have B5 := Lib.hid (below_step B4.out hb (Nat.le_refl _))
  clear hb
  go_wp2_with fail
  refine (C6.out _).mono ?_
  rintro e w6 ⟨rfl, hb⟩
  have H6 := Lib.hid (H5.out.step hb)
  have B6 := Lib.hid (below_step B5.out hb (Nat.le_refl _))
  clear hb
  go_wp2_with fail
  refine (C7.out _).mono ?_
  rintro e w7 ⟨rfl, hb⟩
  have H7 := Lib.hid (H6.out.step hb)
  have B7 := Lib.hid (below_step B6.out hb (Nat.le_refl _))
  clear hb
  go_wp2_with fail
  refine (C8.out _).mono ?_
  rintro e w8 ⟨rfl, hb⟩
  have H8 := Lib.hid (H7.out.step hb)
  have B8 := Lib.hid (below_step B7.out hb (Nat.le_refl _))
  clear hb
  go_wp2_with fail
  refine (works_any _ H8.out).mono ?_
  rintro e w9 ⟨rfl, hb⟩
  have B9 := Lib.hid (below_step B8.out hb (Nat.le_refl _))
  clear hb
  go_wp2_with fail
  go_ret
  exact ⟨rfl, B9.out⟩
end Go.Proofs.YtknhjoikoodapaaDoor
