/- The contracts of the reference's Check, Clean and Compare. -/
import Derived.Test.YtipfccfjniglbaaGreatDoorRef
import Derived.Test.YtipfccfjniglbaaGreatDoorCheck
import Derived.Test.YtipfccfjniglbaaGreatDoorCompare
set_option linter.unusedSimpArgs false
set_option linter.unusedVariables false
namespace Go.Proofs.YtipfccfjniglbaaGreatDoor
open Go.RowKit
open Go.Lib hiding intOf

theorem parent_le (l : List UInt8) : (parent l).length ≤ l.length := by unfold parent; simp; omega
theorem lastName_le (l : List UInt8) : (lastName l).length ≤ l.length := by unfold lastName; simp
set_option maxHeartbeats 1000000 in
theorem rwhiteout_any (s : ByteArray) (w : World) (hs : s.size ≤ 1099511627776) :
    Calls Tryz.prog 124 #[.string s] w fun e w' => e = .returned (.string (bs (whiteout s.data.toList))) ∧ w = w' := by
  have hp := fun W => rparent_any s W (by omega)
  have hlst := fun W => rlast_any s W (by omega)
  have hj : ∀ W, Calls Tryz.prog 134 #[.string (bs (parent s.data.toList)), .string (⟨#[46, 119, 104, 46]⟩ ++ bs (lastName s.data.toList))] W fun e w' => e = .returned (.string (bs (whiteout s.data.toList))) ∧ W = w' := by
    intro W
    have h := rjoin_any (bs (parent s.data.toList)) (⟨#[46, 119, 104, 46]⟩ ++ bs (lastName s.data.toList)) W (by
      rw [append_bs, bs_size, bs_size]
      have h1 := parent_le s.data.toList
      have h2 := lastName_le s.data.toList
      rw [← size_eq] at h1 h2
      simp
      omega)
    rw [append_bs, bs_toList, bs_toList, bs_toList] at h
    rw [append_bs, bs_toList]
    exact h
  have hal : ¬ 9223372036854775807 < 4 + (bs (lastName s.data.toList)).size := by
    have h2 := lastName_le s.data.toList
    rw [← size_eq] at h2
    simp
    omega
  generalize bs (whiteout s.data.toList) = wo at *
  generalize bs (parent s.data.toList) = pa at *
  generalize bs (lastName s.data.toList) = la at *
  have Hp := Lib.hid hp
  have Hlst := Lib.hid hlst
  have Hj := Lib.hid hj
  clear hp hlst hj
  go_enter Tryz.func124, Tryz.ntmps124
  go_wp2_with (first
    | (go_at_call 105; refine (Hp.out _).mono ?_; rintro e w' ⟨rfl, rfl⟩)
    | (go_at_call 135; refine (Hlst.out _).mono ?_; rintro e w' ⟨rfl, rfl⟩)
    | (go_at_call 134; refine (Hj.out _).mono ?_; rintro e w' ⟨rfl, rfl⟩))
  go_ret
  exact ⟨rfl, rfl⟩

set_option maxRecDepth 100000 in
set_option maxHeartbeats 4000000 in
theorem rcheck_any (s : ByteArray) (w : World) (hs : s.size ≤ 1099511627776) :
    Calls Tryz.prog 103 #[.string s] w fun e w' => e = .returned (.int .i64 (checkNo s.data.toList : Int)) ∧ Below w.heap.size w w' := by
  by_cases h0 : s.data.toList = []
  · have b0 := emptyB_t h0
    have G := Lib.hid (show ((checkNo s.data.toList : Nat) : Int) = 15 by unfold checkNo; rw [if_pos h0]; rfl)
    clear h0
    go_enter Tryz.func103, Tryz.ntmps103
    go_wp2
    go_ret
    exact ⟨by rw [G.out]; rfl, Below.refl _ _⟩
  have b0 := emptyB_f h0
  have Hcut := Lib.hid (rcut_any s w hs)
  have hL := pcs_length s.data.toList
  have hml := pcs_mem_length s.data.toList
  rw [← size_eq] at hL hml
  have hne := pcs_ne s.data.toList
  have hck : checkNo s.data.toList = if (pcs s.data.toList).any (fun p => !nameOk p) then 8 else if 32 < (pcs s.data.toList).length ∨ 255 < s.size then 9 else (splitP (whiteout s.data.toList)).2.2 := by
    unfold checkNo
    rw [if_neg h0, ← size_eq]
  have Hck := Lib.hid hck
  clear hck h0
  generalize pcs s.data.toList = L at *
  have Hne := Lib.hid hne
  have Hml := Lib.hid hml
  clear hne hml
  go_enter Tryz.func103, Tryz.ntmps103
  go_wp2_with fail
  refine Hcut.out.mono ?_
  rintro e w1 ⟨v, rfl, htx, hb⟩
  obtain ⟨g, cap, rfl, hgb, hglt, hcells⟩ := texts_form htx Hne.out
  have hbs := hb.size
  have Hb := Lib.hid hb
  have Hcells := Lib.hid hcells
  clear hb htx hcells
  generalize hn : L.length = n at *
  have Hn := Lib.hid hn
  clear hn
  go_wp2_with fail
  go_loopw [4] (fun iv wr => ∃ k : Nat, iv = .int .i64 k ∧ k ≤ n ∧ wr = w1 ∧ (L.take k).any (fun p => !nameOk p) = false) (fun iv _ => n - (intOf iv).toNat)
  case atStart => exact ⟨0, rfl, by omega, rfl, rfl⟩
  case round =>
    obtain ⟨k, rfl, hk, rfl, hany⟩ := hrel
    have Hany := Lib.hid hany
    clear hany
    by_cases hlt : k < n
    · obtain ⟨x, hx⟩ : ∃ x, L[k]? = some x := ⟨_, List.getElem?_eq_getElem (by rw [Hn.out]; exact hlt)⟩
      have hc : wr.cell? ⟨g, k, none⟩ = some (.string (bs x)) := Hcells.out k x hx
      have hxl := Hml.out x (List.mem_of_getElem? hx)
      have hname := rname_any (bs x) wr (by simp; omega)
      rw [bs_toList] at hname
      have htake : L.take (k + 1) = L.take k ++ [x] := by rw [List.take_add_one, hx]; rfl
      have hsplit : L = L.take (k + 1) ++ L.drop (k + 1) := (List.take_append_drop _ _).symm
      have Htake := Lib.hid htake
      have Hsplit := Lib.hid hsplit
      clear hx htake hsplit hxl
      cases hok : nameOk x
      · have hv : ((nameNo x : Nat) : Int) = 8 := by unfold nameNo; rw [hok]; rfl
        rw [hv] at hname
        have Hname := Lib.hid hname
        have G := Lib.hid (show ((checkNo s.data.toList : Nat) : Int) = 8 by rw [Hck.out, Hsplit.out, List.any_append, Htake.out, List.any_append, Hany.out]; simp [hok])
        clear hname hv hok
        go_wp2_with (go_at_call 122; refine Hname.out.mono ?_; rintro e w' ⟨rfl, rfl⟩)
        go_ret
        exact ⟨by rw [G.out]; rfl, Hb.out⟩
      · have hv : ((nameNo x : Nat) : Int) = 0 := by unfold nameNo; rw [hok]; rfl
        rw [hv] at hname
        have Hname := Lib.hid hname
        have G := Lib.hid (show (L.take (k + 1)).any (fun p => !nameOk p) = false by rw [Htake.out, List.any_append, Hany.out]; simp [hok])
        clear hname hv hok
        go_wp2_with (go_at_call 122; refine Hname.out.mono ?_; rintro e w' ⟨rfl, rfl⟩)
        go_roundw
        case rel => exact ⟨k + 1, by go_num, by omega, by simp, G.out⟩
        case measure => simp [intOf]; omega
    · obtain rfl : k = n := by omega
      have hall : L.any (fun p => !nameOk p) = false := by
        have := Hany.out
        rwa [List.take_of_length_le (by rw [Hn.out]; omega)] at this
      by_cases hbig : 32 < k ∨ 255 < s.size
      · have G := Lib.hid (show ((checkNo s.data.toList : Nat) : Int) = 9 by rw [Hck.out, hall, if_neg (by simp), if_pos hbig]; rfl)
        clear hall
        by_cases hq : 32 < k
        · clear hbig
          go_wp2
          go_ret
          exact ⟨by rw [G.out]; rfl, Hb.out⟩
        · have hq2 : 255 < s.size := by omega
          clear hbig
          go_wp2
          go_ret
          exact ⟨by rw [G.out]; rfl, Hb.out⟩
      · have hq1 : k ≤ 32 := by omega
        have hq2 : s.size ≤ 255 := by omega
        have hwo := fun W => rwhiteout_any s W hs
        have hsp := fun W => rsplit_any (bs (whiteout s.data.toList)) W (by
          have := whiteout_length s.data.toList
          rw [← size_eq] at this
          simp
          omega)
        rw [bs_toList] at hsp
        have g : ((checkNo s.data.toList : Nat) : Int) = ((splitP (whiteout s.data.toList)).2.2 : Int) := by rw [Hck.out, hall, if_neg (by simp), if_neg hbig]
        clear hall hbig
        generalize splitP (whiteout s.data.toList) = sp at *
        obtain ⟨s1, s2, e⟩ := sp
        generalize bs (whiteout s.data.toList) = wo at *
        generalize bs s1 = s1 at *
        generalize bs s2 = s2 at *
        have G := Lib.hid g
        have Hwo := Lib.hid hwo
        have Hsp : Hid (∀ W, Calls Tryz.prog 123 #[.string wo] W fun e' w' => e' = .returned (.tuple #[.string s1, .string s2, .int .i64 (e : Int)]) ∧ Same W w') := hsp
        clear g hwo hsp
        go_wp2_with (first
          | (go_at_call 124; refine (Hwo.out _).mono ?_; rintro e' w' ⟨rfl, rfl⟩)
          | (go_at_call 123; refine (Hsp.out _).mono ?_; rintro e' w' ⟨rfl, hsm⟩; have Hsm := Lib.hid hsm; clear hsm))
        go_ret
        exact ⟨by rw [G.out]; rfl, Hb.out.trans (Hsm.out.below _)⟩

theorem cmpPs_drop {L M : List (List UInt8)} {k : Nat} {x y : List UInt8} (hx : L[k]? = some x) (hy : M[k]? = some y) : cmpPs (L.drop k) (M.drop k) = if cmpB x y = 0 then cmpPs (L.drop (k + 1)) (M.drop (k + 1)) else cmpB x y := by
  obtain ⟨h1, rfl⟩ := List.getElem?_eq_some_iff.1 hx
  obtain ⟨h2, rfl⟩ := List.getElem?_eq_some_iff.1 hy
  rw [List.drop_eq_getElem_cons h1, List.drop_eq_getElem_cons h2, cmpPs_cons]
theorem cmpPs_end {L M : List (List UInt8)} {k : Nat} (h : L.length ≤ k ∨ M.length ≤ k) (hk1 : k ≤ L.length) (hk2 : k ≤ M.length) : cmpPs (L.drop k) (M.drop k) = if L.length < M.length then -1 else if M.length < L.length then 1 else 0 := by
  cases hl : L.drop k with
  | nil =>
    have h1 : L.length ≤ k := by simpa using hl
    cases hm : M.drop k with
    | nil =>
      have h2 : M.length ≤ k := by simpa using hm
      rw [if_neg (by omega), if_neg (by omega)]
      rfl
    | cons y ys =>
      have h2 : k < M.length := by
        have := congrArg List.length hm
        simp at this
        omega
      rw [if_pos (by omega)]
      rfl
  | cons x xs =>
    have h1 : k < L.length := by
      have := congrArg List.length hl
      simp at this
      omega
    cases hm : M.drop k with
    | nil =>
      have h2 : M.length ≤ k := by simpa using hm
      rw [if_neg (by omega), if_pos (by omega)]
      rfl
    | cons y ys =>
      have h2 : k < M.length := by
        have := congrArg List.length hm
        simp at this
        omega
      omega
set_option maxRecDepth 100000 in
set_option maxHeartbeats 4000000 in
theorem rcompare_any (a b : ByteArray) (w : World) (ha : a.size ≤ 1099511627776) (hb : b.size ≤ 1099511627776) :
    Calls Tryz.prog 63 #[.string a, .string b] w fun e w' => e = .returned (.int .i64 (compareP a.data.toList b.data.toList)) ∧ Below w.heap.size w w' := by
  have Hc1 := Lib.hid (fun W => rcut_any a W ha)
  have Hc2 := Lib.hid (fun W => rcut_any b W hb)
  have hL := pcs_length a.data.toList
  have hM := pcs_length b.data.toList
  rw [← size_eq] at hL hM
  have Hcp : Hid (compareP a.data.toList b.data.toList = cmpPs (pcs a.data.toList) (pcs b.data.toList)) := Lib.hid rfl
  have hne1 := pcs_ne a.data.toList
  have hne2 := pcs_ne b.data.toList
  generalize pcs a.data.toList = L at *
  generalize pcs b.data.toList = M at *
  have Hne1 := Lib.hid hne1
  have Hne2 := Lib.hid hne2
  clear hne1 hne2
  go_enter Tryz.func63, Tryz.ntmps63
  go_wp2_with fail
  refine (Hc1.out _).mono ?_
  rintro e w1 ⟨v, rfl, htx, hb1⟩
  obtain ⟨g, cap, rfl, _, hglt, hcells⟩ := texts_form htx Hne1.out
  have Hb1 := Lib.hid hb1
  have Hcells := Lib.hid hcells
  clear hb1 htx hcells
  go_wp2_with fail
  refine (Hc2.out _).mono ?_
  rintro e w2 ⟨v, rfl, htx, hb2⟩
  obtain ⟨g2, cap2, rfl, _, hglt2, hcells2⟩ := texts_form htx Hne2.out
  have Hb2 := Lib.hid hb2
  have Hcells2 := Lib.hid hcells2
  clear hb2 htx hcells2
  have Hbb := Lib.hid (Hb1.out.trans (Hb2.out.mono Hb1.out.size))
  generalize hn : L.length = n at *
  generalize hm : M.length = m at *
  have Hn := Lib.hid hn
  have Hm := Lib.hid hm
  clear hn hm
  go_wp2_with fail
  go_loopw [7] (fun iv wr => ∃ k : Nat, iv = .int .i64 k ∧ k ≤ n ∧ k ≤ m ∧ Same w2 wr ∧ compareP a.data.toList b.data.toList = cmpPs (L.drop k) (M.drop k)) (fun iv _ => n - (intOf iv).toNat)
  case atStart => exact ⟨0, rfl, by omega, by omega, Same.refl _, Hcp.out⟩
  case round =>
    obtain ⟨k, rfl, hk1, hk2, hsm, hcmp⟩ := hrel
    have Hsm := Lib.hid hsm
    have Hcmp := Lib.hid hcmp
    clear hsm hcmp
    by_cases hlt : k < n ∧ k < m
    · obtain ⟨hlt1, hlt2⟩ := hlt
      obtain ⟨x, hx⟩ : ∃ x, L[k]? = some x := ⟨_, List.getElem?_eq_getElem (by rw [Hn.out]; exact hlt1)⟩
      obtain ⟨y, hy⟩ : ∃ y, M[k]? = some y := ⟨_, List.getElem?_eq_getElem (by rw [Hm.out]; exact hlt2)⟩
      have hcx : wr.cell? ⟨g, k, none⟩ = some (.string (bs x)) := ((Hsm.out.below w2.heap.size).cell (p := ⟨g, k, none⟩) (Nat.lt_of_lt_of_le hglt Hb2.out.size)).trans ((Hb2.out.cell (p := ⟨g, k, none⟩) hglt).trans (Hcells.out k x hx))
      have hcy : wr.cell? ⟨g2, k, none⟩ = some (.string (bs y)) := ((Hsm.out.below w2.heap.size).cell (p := ⟨g2, k, none⟩) hglt2).trans (Hcells2.out k y hy)
      have hstep := cmpPs_drop hx hy
      have Hstep := Lib.hid hstep
      clear hstep hx hy
      have i1 : (k : Int) < (n : Int) := by omega
      have i2 : (k : Int) < (m : Int) := by omega
      by_cases c1 : Op.bytesLess x y = true
      · have t1 : Op.bytesLess (bs x).toList (bs y).toList = true := by rw [bs_tl, bs_tl]; exact c1
        have G := Lib.hid (show compareP a.data.toList b.data.toList = -1 by rw [Hcmp.out, Hstep.out]; unfold cmpB; rw [if_pos c1]; rfl)
        clear c1
        go_wp2
        go_quiet (fail)
        go_wp2
        go_ret
        exact ⟨by rw [G.out]; rfl, Hbb.out.trans ((Hsm.out.below _).trans (below_drewN (Below.refl _ _) _))⟩
      · have c1 : Op.bytesLess x y = false := by simpa using c1
        have t1 : Op.bytesLess (bs x).toList (bs y).toList = false := by rw [bs_tl, bs_tl]; exact c1
        by_cases c2 : (x == y) = true
        · have t2 : ((bs x).toList == (bs y).toList) = true := by rw [bs_tl, bs_tl]; exact c2
          have G := Lib.hid (show compareP a.data.toList b.data.toList = cmpPs (L.drop (k + 1)) (M.drop (k + 1)) by rw [Hcmp.out, Hstep.out]; unfold cmpB; rw [if_neg (show ¬ Op.bytesLess x y = true by rw [c1]; simp), if_pos c2, if_pos rfl])
          clear c1 c2
          go_wp2
          go_quiet (fail)
          go_wp2
          go_quiet (fail)
          go_wp2
          go_roundw
          case rel => exact ⟨k + 1, by go_num, by omega, by omega, below_same Hsm.out ⟨_, rfl⟩, G.out⟩
          case measure => simp [intOf]; omega
        · have c2 : (x == y) = false := by simpa using c2
          have t2 : ((bs x).toList == (bs y).toList) = false := by rw [bs_tl, bs_tl]; exact c2
          have G := Lib.hid (show compareP a.data.toList b.data.toList = 1 by rw [Hcmp.out, Hstep.out]; unfold cmpB; rw [if_neg (show ¬ Op.bytesLess x y = true by rw [c1]; simp), if_neg (show ¬ (x == y) = true by rw [c2]; simp)]; rfl)
          clear c1 c2
          go_wp2
          go_quiet (fail)
          go_wp2
          go_quiet (fail)
          go_wp2
          go_ret
          exact ⟨by rw [G.out]; rfl, Hbb.out.trans ((Hsm.out.below _).trans (below_drewN (below_drewN (Below.refl _ _) _) _))⟩
    · have hend := cmpPs_end (L := L) (M := M) (k := k) (by rw [Hn.out, Hm.out]; omega) (by rw [Hn.out]; exact hk1) (by rw [Hm.out]; exact hk2)
      rw [Hn.out, Hm.out] at hend
      have hall := Hcmp.out
      rw [hend] at hall
      have hkk : k = n ∨ k = m := by omega
      clear hlt hend
      have hfin : Below w.heap.size w wr := Hbb.out.trans (Hsm.out.below _)
      have Hf := Lib.hid hfin
      clear hfin
      by_cases c1 : n < m
      · rw [if_pos c1] at hall
        have G := Lib.hid hall
        clear hall
        obtain rfl : k = n := by omega
        clear hkk
        go_wp2
        go_ret
        exact ⟨by rw [G.out]; rfl, Hf.out⟩
      · rw [if_neg c1] at hall
        by_cases c2 : m < n
        · rw [if_pos c2] at hall
          have G := Lib.hid hall
          clear hall
          obtain rfl : k = m := by omega
          clear hkk
          go_wp2
          go_ret
          exact ⟨by rw [G.out]; rfl, Hf.out⟩
        · rw [if_neg c2] at hall
          have G := Lib.hid hall
          clear hall
          obtain rfl : k = n := by omega
          obtain rfl : k = m := by omega
          clear hkk
          go_wp2
          go_ret
          exact ⟨by rw [G.out]; rfl, Hf.out⟩
end Go.Proofs.YtipfccfjniglbaaGreatDoor
