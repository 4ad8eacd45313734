/- The contracts of the reference's Cut and Pieces. -/
import Derived.Test.YtipfccfjniglbaaGreatDoorClean
set_option linter.unusedSimpArgs false
set_option linter.unusedVariables false
namespace Go.Proofs.YtipfccfjniglbaaGreatDoor
open Go.RowKit
open Go.Lib hiding intOf

theorem pcs_slash : ∀ {l : List UInt8} {m : Nat}, (∀ j, j < m → ¬ l[j]? = some 47) → l[m]? = some 47 → pcs l = l.take m :: pcs (l.drop (m + 1))
  | [], m, _, h => by simp at h
  | c :: t, 0, _, h => by
    have hc : c = 47 := by simpa using h
    rw [pcs_cons, if_pos hc]
    rfl
  | c :: t, m + 1, hn, h => by
    have hc : ¬ c = 47 := by have := hn 0 (by omega); simpa using this
    have ih := pcs_slash (l := t) (m := m) (fun j hj => by have := hn (j + 1) (by omega); simpa using this) (by simpa using h)
    rw [pcs_cons, if_neg hc, ih]
    rfl
theorem pcs_noslash : ∀ {l : List UInt8}, (∀ j, j < l.length → ¬ l[j]? = some 47) → pcs l = [l]
  | [], _ => rfl
  | c :: t, hn => by
    have hc : ¬ c = 47 := by have := hn 0 (by simp); simpa using this
    have ih := pcs_noslash (l := t) (fun j hj => by have := hn (j + 1) (by simp; omega); simpa using this)
    rw [pcs_cons, if_neg hc, ih]

/-- the slice v holds these texts, in memory of the call's own -/
def Texts (w : World) (base : Nat) (v : Value) (L : List (List UInt8)) : Prop := w.ownsRow base 9 1 v L.length (L.map encS)
theorem texts_snoc {w : World} {base : Nat} {v u : Value} {L : List (List UInt8)} {p : List UInt8} (h : w.ownsRow base 9 1 v (L.length + 1) (L.map encS ++ [u])) (hu : u = encS p) : Texts w base v (L ++ [p]) := by
  unfold Texts
  rw [List.length_append, List.length_singleton, List.map_append, List.map_singleton, ← hu]
  exact h
theorem texts_below {w wr w1 : World} {base : Nat} {v : Value} {L : List (List UInt8)} {tmp : Obj} (h : Texts wr base v L) (hb : Below base w wr) (hg : (wr.alloc tmp).grownBy w1 v.ownBlock) (hB : base ≤ wr.heap.size := by omega) : Below base w w1 :=
  (hb.alloc hB tmp).grown hg (by simp; omega) (fun k e => (World.ownsRow.lt h k e).1)
/-- where the reference's Cut stands -/
def CutAt (l : List UInt8) (f k : Nat) (done : List (List UInt8)) : Prop :=
  (k ≤ l.length → f ≤ k ∧ pcs l = done ++ pcs (l.drop f) ∧ ∀ j, f ≤ j → j < k → ¬ l[j]? = some 47) ∧ (l.length < k → pcs l = done)
theorem CutAt.start (l : List UInt8) : CutAt l 0 0 [] := ⟨fun _ => ⟨Nat.le_refl _, rfl, fun j _ h => absurd h (by omega)⟩, fun h => absurd h (by omega)⟩
theorem CutAt.go {l : List UInt8} {f k : Nat} {done : List (List UInt8)} (h : CutAt l f k done) (hk : k < l.length) (hc : ¬ l[k]? = some 47) : CutAt l f (k + 1) done := by
  obtain ⟨h1, h2, h3⟩ := h.1 (by omega)
  refine ⟨fun _ => ⟨by omega, h2, fun j a b => ?_⟩, fun h => absurd h (by omega)⟩
  rcases (by omega : j < k ∨ j = k) with h4 | rfl
  · exact h3 j a h4
  · exact hc
theorem CutAt.cut {l : List UInt8} {f k : Nat} {done : List (List UInt8)} (h : CutAt l f k done) (hk : k < l.length) (hc : l[k]? = some 47) : CutAt l (k + 1) (k + 1) (done ++ [(l.drop f).take (k - f)]) := by
  obtain ⟨h1, h2, h3⟩ := h.1 (by omega)
  refine ⟨fun _ => ⟨Nat.le_refl _, ?_, fun j a b => absurd b (by omega)⟩, fun h => absurd h (by omega)⟩
  rw [h2, pcs_slash (l := l.drop f) (m := k - f)]
  · rw [List.drop_drop, show f + (k - f + 1) = k + 1 from by omega]
    simp
  · intro j hj
    rw [List.getElem?_drop]
    exact h3 _ (by omega) (by omega)
  · rw [List.getElem?_drop, show f + (k - f) = k from by omega]
    exact hc
theorem CutAt.last {l : List UInt8} {f : Nat} {done : List (List UInt8)} (h : CutAt l f l.length done) : CutAt l (l.length + 1) (l.length + 1) (done ++ [(l.drop f).take (l.length - f)]) := by
  obtain ⟨h1, h2, h3⟩ := h.1 (Nat.le_refl _)
  refine ⟨fun h => absurd h (by omega), fun _ => ?_⟩
  rw [h2, pcs_noslash]
  · rw [List.take_of_length_le (by simp)]
  · intro j hj
    rw [List.getElem?_drop]
    simp at hj
    exact h3 _ (by omega) (by omega)
theorem CutAt.length {l : List UInt8} {f k : Nat} {done : List (List UInt8)} (h : CutAt l f k done) : done.length ≤ l.length + 1 := by
  have := pcs_length l
  rcases Nat.lt_or_ge l.length k with hk | hk
  · rw [h.2 hk] at this; exact this
  · obtain ⟨_, h2, _⟩ := h.1 hk
    rw [h2] at this
    simp at this
    omega
theorem CutAt.le {l : List UInt8} {f k : Nat} {done : List (List UInt8)} (h : CutAt l f k done) (hk : k ≤ l.length) : f ≤ k := (h.1 hk).1

set_option maxRecDepth 100000 in
set_option maxHeartbeats 4000000 in
theorem rcut_any (s : ByteArray) (w : World) (hs : s.size ≤ 1099511627776) :
    Calls Tryz.prog 96 #[.string s] w fun e w' => ∃ v, e = .returned v ∧ Texts w' w.heap.size v (pcs s.data.toList) ∧ Below w.heap.size w w' := by
  obtain ⟨i0, hi, hz0, hz1, hz2⟩ := info_parts Tryz.infoString
  have Hi := Lib.hid hi
  have Hz0 := Lib.hid hz0
  have Hz1 := Lib.hid hz1
  have Hz2 := Lib.hid hz2
  clear hi hz0 hz1 hz2
  go_enter Tryz.func96, Tryz.ntmps96
  go_wp2
  go_loopw [3, 4, 5] (fun v fv iv wr => ∃ (f k : Nat) (done : List (List UInt8)), fv = .int .i64 f ∧ iv = .int .i64 k ∧ k ≤ s.size + 1 ∧ CutAt s.data.toList f k done ∧ Texts wr w.heap.size v done ∧ Below w.heap.size w wr) (fun _ _ iv _ => s.size + 1 - (intOf iv).toNat)
  case atStart => exact ⟨0, 0, [], rfl, rfl, by omega, CutAt.start _, World.ownsRow_nil _ _ _ _, Below.refl _ _⟩
  case round =>
    obtain ⟨f, k, done, rfl, rfl, hk, hat, htx, hb⟩ := hrel
    have hdl := hat.length
    rw [← size_eq] at hdl
    have hbs := hb.size
    have Hat := Lib.hid hat
    have Htx := Lib.hid htx
    have Hb := Lib.hid hb
    clear hat htx hb
    by_cases hle : k ≤ s.size
    · have hfk : f ≤ k := Hat.out.le (by rw [← size_eq]; exact hle)
      have hpiece : Value.string (s.extract f k) = encS ((s.data.toList.drop f).take (k - f)) := by unfold encS; rw [extract_bs]
      have Hpiece := Lib.hid hpiece
      clear hpiece
      by_cases hend : k = s.size
      · have hat2 := Hat.out
        rw [hend, size_eq] at hat2
        have hat3 := hat2.last
        rw [← size_eq, ← hend] at hat3
        have Hat3 := Lib.hid hat3
        clear hat2 hat3
        have b1 : ((k : Int) == (s.size : Int)) = true := by rw [hend]; simp
        have b2 : (k : Int) ≤ (s.size : Int) := by omega
        have Hend := Lib.hid hend
        clear hend
        go_wp2_with (at_builtin; refine wpList_append_own _ rfl _ _ 123 rfl w.heap.size 9 i0 (.string ⟨#[]⟩) 1 16 Tryz.underlying123 Hi.out Hz0.out Hz1.out Hz2.out rfl (by decide) _ _ _ rfl (Htx.out.alloc _) ⟨wr.heap.size, 0, none⟩ 1 1 [.string (s.extract f k)] rfl rfl (cell_one_new _ _ _) (by simp [Value.oneCell']) (by unfold maxLen; omega) (by omega) (by simp; omega) ?_; intro v' w1 hown' hgrow _)
        go_roundw
        case rel => exact ⟨k + 1, k + 1, _, by go_num, by go_num, by omega, Hat3.out, texts_snoc hown' Hpiece.out, texts_below Htx.out Hb.out hgrow⟩
        case measure => simp [intOf]; omega
      · have hlt : k < s.size := by omega
        have b1 : ((k : Int) == (s.size : Int)) = false := by simp; omega
        clear hend
        by_cases hc : s.data.toList[k]? = some 47
        · have hb : ((((s[k]'hlt).toNat : Nat) : Int) == 47) = true := byte_eq hlt 47 (by decide) hc
          have Hat3 := Lib.hid (Hat.out.cut (by rw [← size_eq]; exact hlt) hc)
          clear hc
          go_wp2_with (at_builtin; refine wpList_append_own _ rfl _ _ 123 rfl w.heap.size 9 i0 (.string ⟨#[]⟩) 1 16 Tryz.underlying123 Hi.out Hz0.out Hz1.out Hz2.out rfl (by decide) _ _ _ rfl (Htx.out.alloc _) ⟨wr.heap.size, 0, none⟩ 1 1 [.string (s.extract f k)] rfl rfl (cell_one_new _ _ _) (by simp [Value.oneCell']) (by unfold maxLen; omega) (by omega) (by simp; omega) ?_; intro v' w1 hown' hgrow _)
          go_roundw
          case rel => exact ⟨k + 1, k + 1, _, by go_num, by go_num, by omega, Hat3.out, texts_snoc hown' Hpiece.out, texts_below Htx.out Hb.out hgrow⟩
          case measure => simp [intOf]; omega
        · have hb : ((((s[k]'hlt).toNat : Nat) : Int) == 47) = false := byte_ne hlt 47 (by decide) hc
          have Hat3 := Lib.hid (Hat.out.go (by rw [← size_eq]; exact hlt) hc)
          clear hc
          go_wp2
          go_roundw
          case rel => exact ⟨f, k + 1, done, rfl, by go_num, by omega, Hat3.out, Htx.out, Hb.out⟩
          case measure => simp [intOf]; omega
    · have hfin := Hat.out.2 (by rw [← size_eq]; omega)
      have Hfin := Lib.hid hfin
      clear hfin
      go_wp2
      go_ret
      exact ⟨_, rfl, by rw [Hfin.out]; exact Htx.out, Hb.out⟩

theorem texts_mono {w : World} {base base' : Nat} {v : Value} {L : List (List UInt8)} (h : Texts w base v L) (hb : base' ≤ base) : Texts w base' v L := by
  obtain ⟨h1, h2⟩ := h
  refine ⟨h1, ?_⟩
  rcases h2 with h2 | ⟨g, cap, cur, a, b, c⟩
  · exact .inl h2
  · exact .inr ⟨g, cap, cur, a, by omega, c⟩
theorem texts_form {w : World} {base : Nat} {v : Value} {L : List (List UInt8)} (h : Texts w base v L) (hn : L ≠ []) : ∃ g cap, v = .slice (some ⟨g, 0, none⟩) L.length cap ∧ base ≤ g ∧ g < w.heap.size ∧ ∀ (k : Nat) x, L[k]? = some x → w.cell? ⟨g, k, none⟩ = some (.string (bs x)) := by
  rcases h.2 with ⟨_, h0⟩ | ⟨g, cap, cur, rfl, hb, hg, _⟩
  · exact absurd (List.eq_nil_of_length_eq_zero h0) hn
  · refine ⟨g, cap, rfl, hb, (Array.getElem?_eq_some_iff.1 hg).1, fun k x hx => ?_⟩
    have hlt : k < L.length := (List.getElem?_eq_some_iff.1 hx).1
    have hc := World.ownsRow.cellAt h k (by omega)
    rw [List.getElem?_map, hx] at hc
    exact hc
theorem texts_below_any {w w' : World} {B base : Nat} {v : Value} {L : List (List UInt8)} (h : Texts w base v L) (hb : Below B w w') (hB : w.heap.size ≤ B) : Texts w' base v L := by
  obtain ⟨h1, h2⟩ := h
  refine ⟨h1, ?_⟩
  rcases h2 with h2 | ⟨g, cap, cur, a, b, c, d⟩
  · exact .inl h2
  · exact .inr ⟨g, cap, cur, a, b, (hb.block g (Nat.lt_of_lt_of_le (Array.getElem?_eq_some_iff.1 c).1 hB)).trans c, d⟩

end Go.Proofs.YtipfccfjniglbaaGreatDoor
