/- flate.short's closure note: the last place of three bytes, and the one ahead of a place. -/
import Derived.Test.YtjielagabnkimaaDoorFSym
import Derived.Maps.Own
import Derived.Maps.OwnOps
import Derived.Maps.Views
import Derived.Maps.OwnSet
set_option linter.unusedSimpArgs false
set_option linter.unusedVariables false
namespace Go.Proofs.YtjielagabnkimaaDoor
open Go.RowKit Go.Maps

theorem Tryd.keyed_u32 : Keyed Tryd.prog 25 := int_keyed Tryd.underlying25
theorem Tryd.zero_int (w : World) : (zeroValue 3).run Tryd.prog w = .ok (.int .i64 0) w := by kernel_rfl
/-- the nearest earlier place of three bytes, and 1 -/
def firstOf (s : List UInt8) (k i : Nat) : Nat := match chain s k i with
  | [] => 0
  | j :: _ => j + 1
theorem firstOf_succ (s : List UInt8) (k i : Nat) : firstOf s k (i + 1) = if threeN s i = k then i + 1 else firstOf s k i := by
  unfold firstOf
  rw [chain]
  by_cases h : threeN s i = k
  · rw [if_pos h, if_pos h]
  · rw [if_neg h, if_neg h]
theorem firstOf_le (s : List UInt8) (k : Nat) : ∀ i, firstOf s k i ≤ i
  | 0 => by simp [firstOf, chain]
  | i + 1 => by
    have := firstOf_le s k i
    rw [firstOf_succ]
    split <;> omega
theorem threeN_lt (s : List UInt8) (i : Nat) : threeN s i < 16777216 := by
  have h1 := at8_lt s i
  have h2 := at8_lt s (i + 1)
  have h3 := at8_lt s (i + 2)
  unfold threeN
  omega
theorem grown_setCell (w : World) (g i : Nat) (v : Value) : w.grownBy (w.setCell ⟨g, i, none⟩ v) (some g) :=
  ⟨rfl, rfl, rfl, by simp [World.setCell], fun k _ hk => heap_setCell_other w ⟨g, i, none⟩ k v (fun e => hk (by rw [e]))⟩
theorem put_first {D : DataW Nat} (hD : IsMap D) (s : List UInt8) (i : Nat) (h : ∀ k : Nat, D.atKey (.int .u32 (k : Int)) (.lit (.int .i64 0)) = .lit (.int .i64 ((firstOf s k i : Nat) : Int))) (k : Nat) :
    (D.put (.int .u32 ((threeN s i : Nat) : Int)) (.lit (.int .i64 ((i : Int) + 1)))).atKey (.int .u32 (k : Int)) (.lit (.int .i64 0)) = .lit (.int .i64 ((firstOf s k (i + 1) : Nat) : Int)) := by
  rw [firstOf_succ]
  by_cases hk : threeN s i = k
  · rw [if_pos hk, hk, atKey_put_same hD (by simp [WideAt.IsKeyLit])]
    congr 2
  · rw [if_neg hk, atKey_put_other (fun e => hk (by injection e with _ e2; omega)), h]
/-- the map first and the row next, when the places ahead of i are noted -/
structure NoteAt (w : World) (s : ByteArray) (Sb Fb Nb M X : Nat) (i : Nat) : Prop where
  sb : Boxed w Sb 9 (.string s)
  fb : Boxed w Fb 89 (.map (some M))
  nb : Boxed w Nb 52 (.slice (some ⟨X, 0, none⟩) s.size s.size)
  map : ∃ (D : DataW Nat) (n : Nat), w.ownsMap Tryd.prog 25 (plainElem Tryd.prog 3) M n D ∧ n ≤ i ∧ ∀ k : Nat, D.atKey (.int .u32 (k : Int)) (.lit (.int .i64 0)) = .lit (.int .i64 ((firstOf s.data.toList k (min i (s.size - 2)) : Nat) : Int))
  row : ∃ cur, w.heap[X]? = some (.cells cur 3 (0, 0)) ∧ cur.size = s.size ∧ ∀ j, j < min i (s.size - 2) → cur[j]? = some (.int .i64 ((firstOf s.data.toList (threeN s.data.toList j) j : Nat) : Int))
def okNote (M X : Nat) (k : Nat) (o : Obj) : Prop := k ≠ M ∧ k ≠ X
theorem NoteAt.drewN {w : World} {s : ByteArray} {Sb Fb Nb M X i : Nat} (h : NoteAt w s Sb Fb Nb M X i) (n : Nat) : NoteAt (w.drewN n) s Sb Fb Nb M X i := ⟨h.sb, h.fb, h.nb, h.map, h.row⟩
theorem NoteAt.keeps {ok : Nat → Obj → Prop} {w w' : World} {s : ByteArray} {Sb Fb Nb M X i : Nat} (h : NoteAt w s Sb Fb Nb M X i) (hk : Keeps ok w w')
    (h1 : ok Sb (.cells #[.string s] 9 (0, 0))) (h2 : ok Fb (.cells #[.map (some M)] 89 (0, 0))) (h3 : ok Nb (.cells #[.slice (some ⟨X, 0, none⟩) s.size s.size] 52 (0, 0)))
    (h4 : ∀ es c, ok M (.map es c)) (h5 : ∀ cur, ok X (.cells cur 3 (0, 0))) : NoteAt w' s Sb Fb Nb M X i := by
  obtain ⟨D, n, ⟨es, c, hM, hD⟩, hn, hat⟩ := h.map
  obtain ⟨cur, hX, hcur⟩ := h.row
  exact ⟨hk.boxed h.sb h1, hk.boxed h.fb h2, hk.boxed h.nb h3, ⟨D, n, ⟨es, c, hk.block _ _ hM (h4 es c), hD⟩, hn, hat⟩, ⟨cur, hk.block _ _ hX (h5 cur), hcur⟩⟩

set_option maxRecDepth 100000 in
set_option maxHeartbeats 4000000 in
theorem note_any (s : ByteArray) (Sb Fb Nb M X i : Nat) (w : World) (hN : NoteAt w s Sb Fb Nb M X i) (hMX : M ≠ X) (hFX : Fb ≠ X) (hNX : Nb ≠ X) (hSX : Sb ≠ X) (hFM : Fb ≠ M) (hNM : Nb ≠ M) (hSM : Sb ≠ M) (hi : i < s.size) (hs : s.size < 2 ^ 40) :
    Calls Tryd.prog 50 #[.int .i64 (i : Int), .pointer (some ⟨Sb, 0, none⟩), .pointer (some ⟨Fb, 0, none⟩), .pointer (some ⟨Nb, 0, none⟩)] w fun e w' =>
      e = .returned (.tuple #[]) ∧ NoteAt w' s Sb Fb Nb M X (i + 1) ∧ Keeps (okNote M X) w w' := by
  have c1 := hN.sb.cell
  by_cases h3 : (i : Int) + 3 ≤ (s.size : Int)
  · have hm : min i (s.size - 2) = i := by omega
    have hm1 : min (i + 1) (s.size - 2) = i + 1 := by omega
    have ht := three_any s i w (by omega) (by omega)
    have Ht := Lib.hid ht
    have HN := Lib.hid hN
    clear ht hN
    go_enter Tryd.func50, Tryd.ntmps50
    have hkey : keyOf Tryd.prog 25 (.int .u32 ((threeN s.data.toList i : Nat) : Int)) = some (.int .u32 ((threeN s.data.toList i : Nat) : Int)) :=
      keyOf_int_mk Tryd.underlying25 (WalkArith.wf_u32 (by have := threeN_lt s.data.toList i; omega))
    have Hkey := Lib.hid hkey
    clear hkey
    go_wp2_with (first
      | (go_at_call 51; refine (Ht.out).mono ?_; rintro e w1 ⟨rfl, hsm⟩
         have hN1 : NoteAt w1 s Sb Fb Nb M X i := by
           obtain ⟨n, rfl⟩ := hsm
           exact HN.out.drewN n
         have hK1 : Keeps (okNote M X) w w1 := (Keeps.refl _ _).same hsm
         obtain ⟨D, nD, hown, hle, hat⟩ := hN1.map
         obtain ⟨cur, hX, hsz, hcur⟩ := hN1.row
         have c2 := hN1.fb.cell
         have c3 := hN1.nb.cell
         have c4 : w1.cell? ⟨X, i, none⟩ = some (cur[i]'(by omega)) := by simp only [World.cell?, hX]; simp [hsz, hi]
         have c5 := frozen_of_row w1 X i cur _ hX
         generalize hold : cur[i]'(by omega) = old at c4
         have HN1 := Lib.hid hN1
         have HK1 := Lib.hid hK1
         have Hown := Lib.hid hown
         have Hat := Lib.hid hat
         have HX := Lib.hid hX
         have Hsz := Lib.hid hsz
         have Hcur := Lib.hid hcur
         clear hN1 hK1 hown hat hX hsz hcur hsm hold)
      | (at_lookup; refine wpList_lookup_own_int _ rfl _ _ 89 rfl 25 3 .i64 Tryd.keyed_u32 Tryd.underlying89 Tryd.underlying3 (Tryd.zero_int _) M _ _ rfl Hown.out _ _ rfl Hkey.out ?_; intro c hatc hwc; have hce : c = ((firstOf s.data.toList (threeN s.data.toList i) i : Nat) : Int) := (by have := (Hat.out (threeN s.data.toList i)).symm.trans hatc; rw [hm] at this; injection this with h1; injection h1 with _ h2; exact h2.symm); subst hce; clear hatc hwc)
      | (at_mapUpdate; refine wpList_mapUpdate_own _ rfl _ _ _ 89 rfl 25 3 Tryd.keyed_u32 Tryd.underlying89 _ M nD D rfl (Hown.out.kept (grown_setCell _ _ _ _) (fun e => hMX (by injection e with e))) (by unfold maxLen; omega) _ _ _ rfl rfl Hkey.out _ [] (plainElem_int Tryd.underlying3 (WalkArith.wf_i64 (by omega))) ?_; intro w2 hown2 hgrow2; have Hown2 := Lib.hid hown2; have Hgrow2 := Lib.hid hgrow2; clear hown2 hgrow2))
    go_end0
    have hx := heap_setCell_same w1 X i cur _ (.int .i64 ((firstOf s.data.toList (threeN s.data.toList i) i : Nat) : Int)) HX.out
    have g1 := grown_setCell w1 X i (.int .i64 ((firstOf s.data.toList (threeN s.data.toList i) i : Nat) : Int))
    have g2 := Hgrow2.out
    have hlt := heap_lt hx
    refine ⟨rfl, ⟨(HN1.out.sb.kept g1 ?_).kept g2 ?_, (HN1.out.fb.kept g1 ?_).kept g2 ?_, (HN1.out.nb.kept g1 ?_).kept g2 ?_, ⟨_, nD + 1, Hown2.out, by omega, ?_⟩, ⟨_, (g2.block X hlt ?_).trans hx, by rw [Array.size_setIfInBounds]; exact Hsz.out, ?_⟩⟩, ?_⟩
    · intro e; injection e with e; exact hSX e
    · intro e; injection e with e; exact hSM e
    · intro e; injection e with e; exact hFX e
    · intro e; injection e with e; exact hFM e
    · intro e; injection e with e; exact hNX e
    · intro e; injection e with e; exact hNM e
    · intro k
      rw [hm1]
      exact put_first (Hown.out.tidy Tryd.keyed_u32).isMap _ _ (fun k => by have := Hat.out k; rw [hm] at this; exact this) k
    · intro e; injection e with e; exact hMX e.symm
    · intro j hj
      rw [hm1] at hj
      by_cases hji : j = i
      · subst hji
        rw [Array.getElem?_setIfInBounds_self_of_lt (by rw [Hsz.out]; omega)]
      · rw [Array.getElem?_setIfInBounds_ne (fun e => hji e.symm)]
        exact Hcur.out j (by rw [hm]; omega)
    · refine (HK1.out.grown g1 ?_).grown g2 ?_
      · intro k o _ _ hok e
        injection e with e
        exact hok.2 e
      · intro k o _ _ hok e
        injection e with e
        exact hok.1 e
  · have hm : min i (s.size - 2) = min (i + 1) (s.size - 2) := by omega
    have HN := Lib.hid hN
    clear hN
    go_enter Tryd.func50, Tryd.ntmps50
    go_wp2_with fail
    go_end0
    obtain ⟨D, n, hown, hle, hat⟩ := HN.out.map
    obtain ⟨cur, hX, hsz, hcur⟩ := HN.out.row
    exact ⟨rfl, ⟨HN.out.sb, HN.out.fb, HN.out.nb, ⟨D, n, hown, by omega, by rw [← hm]; exact hat⟩, ⟨cur, hX, hsz, by rw [← hm]; exact hcur⟩⟩, Keeps.refl _ _⟩
end Go.Proofs.YtjielagabnkimaaDoor
