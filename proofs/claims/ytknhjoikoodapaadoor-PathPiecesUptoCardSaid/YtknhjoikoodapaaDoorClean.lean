/- The contract of path.Clean. -/
import Derived.Test.YtknhjoikoodapaaDoorIter
import Derived.Test.YtknhjoikoodapaaDoorName
import Derived.Test.YtknhjoikoodapaaDoorWeight
import Derived.RangeFuncBox
import Derived.Maps.AppendAt
import Derived.WalkSmall
import Derived.Laws.OwnMore
set_option linter.unusedSimpArgs false
set_option linter.unusedVariables false
namespace Go.Proofs.YtknhjoikoodapaaDoor
open Go.RowKit Go.Shelf
open Go.Lib hiding intOf
attribute [local go_sem] Oper.semAt_some

def encS (p : List UInt8) : Value := .string (bs p)

theorem Tryd.infoString : (Tryd.prog.info? 9).map (fun i => (i.zero, i.size, i.bytes)) = some (some (.string ⟨#[]⟩), 1, 16) := by kernel_rfl

theorem keepsT_appended {T : TypeId} {W w1 : World} {n₀ B : Nat} {t e : TypeId} {size : Nat} {v v' : Value} {k : Nat} {xs : List Value} {tmp : Obj}
    (hT : t ≠ T) (hE : e ≠ T) (hrow : W.ownsRow n₀ e size v k xs) (hgrow : (W.alloc tmp).grownBy w1 v.ownBlock) (hv1 : Boxed w1 B t v) : KeepsT T W (w1.setCell ⟨B, 0, none⟩ v') := by
  refine ((KeepsT.alloc W tmp).trans (KeepsT.grown hgrow fun g cs fz eg hg => ?_)).trans (KeepsT.setCell _ fun cs fz hb => ?_)
  · rcases (hrow.alloc tmp).2 with ⟨rfl, _⟩ | ⟨g', cap, cur, rfl, _, hgb, _⟩
    · simp [Value.ownBlock] at eg
    · obtain rfl : g' = g := by simpa [Value.ownBlock] using eg
      rw [hgb] at hg; injection hg with hg; injection hg with _ h2; exact hE h2
  · have : w1.heap[B]? = some (.cells #[v] t (0, 0)) := hv1
    rw [this] at hb
    injection hb with hb
    injection hb with _ h2
    exact hT h2

theorem box_ne {W : World} {B : Nat} {t T : TypeId} {v : Value} {cs : Array Value} {fz : Nat × Nat} (h : Boxed W B t v) (ht : t ≠ T) (hc : W.heap[B]? = some (.cells cs T fz)) : False := by
  have h' : W.heap[B]? = some (.cells #[v] t (0, 0)) := h
  rw [h'] at hc
  injection hc with hc
  injection hc with _ h2
  exact ht h2
theorem own_pop {W : World} {base : Nat} {e : TypeId} {g n cap : Nat} {xs : List Value} (h : W.ownsRow base e 1 (.slice (some ⟨g, 0, none⟩) n cap) n xs) : W.ownsRow base e 1 (.slice (some ⟨g, 0, none⟩) (n - 1) cap) (n - 1) xs.dropLast := by
  rcases List.eq_nil_or_concat xs with rfl | ⟨i, x, rfl⟩
  · have h1 := h.1
    simp at h1
    subst h1
    exact h
  · rw [List.concat_eq_append] at h ⊢
    have h1 := h.1
    simp at h1
    subst h1
    rw [List.dropLast_concat]
    exact ownsRow_pop (by simp) h
def ClI (base B : Nat) (w : World) (pre : List (List UInt8)) (W : World) : Prop :=
  (∃ v, Boxed W B 37 v ∧ W.ownsRow base 9 1 v (pre.foldl cleanStep []).length ((pre.foldl cleanStep []).map encS) ∧ True) ∧ Below base w W

set_option maxRecDepth 100000 in
set_option maxHeartbeats 4000000 in
theorem clean_any (s : ByteArray) (w : World) (hs : s.size ≤ 1099511627776) :
    Calls Tryd.prog 26 #[.string s] w fun e w' => e = .returned (.string (bs (cleanP s.data.toList))) ∧ Below w.heap.size w w' := by
  obtain ⟨i0, hi, hz0, hz1, hz2⟩ := info_parts Tryd.infoString
  refine (callsIn_wide (n := 0)).1 ?_
  refine callsIn_of_wp_marks Tryd.func26 rfl trivial ?_ rfl
  simp only [Tryd.ntmps26, List.size_toArray, List.length_cons, List.length_nil, Nat.reduceAdd, Nat.reduceSub, Array.replicate_succ, Array.replicate_zero, List.push_toArray, List.append_toArray, List.nil_append, List.cons_append]
  have Hall := Lib.hid (fun W => piecesFn_any s W)
  have Hi := Lib.hid hi
  have Hz0 := Lib.hid hz0
  have Hz1 := Lib.hid hz1
  have Hz2 := Lib.hid hz2
  clear hi hz0 hz1 hz2
  gi_wp2_with (refine ⟨trivial, rfl, ?_⟩; gi_at_call 34; refine CallsIn.mono (callsIn_wide.2 (Hall.out _)) ?_; rintro e w1 ⟨rfl, rfl⟩)
  obtain ⟨W2, hW2⟩ : ∃ W2, W2 = (w.alloc (.cells #[.slice none 0 0] 37)).alloc (.cells #[.string s] 9) := ⟨_, rfl⟩
  rw [← hW2]
  have hsz : W2.heap.size = w.heap.size + 2 := by rw [hW2]; simp
  have hbl : Boxed W2 w.heap.size 37 (.slice none 0 0) := by rw [hW2]; exact (Boxed.new w _ _).alloc _
  have hb2 : Below w.heap.size w W2 := by rw [hW2]; exact ((Below.refl _ _).alloc (Nat.le_refl _) _).alloc (by simp) _
  have hseq : SeqL Tryd.prog 53 #[.pointer (some ⟨w.heap.size + 1, 0, none⟩)] (fun p => #[.string (bs p)]) (KeepsT 28) (pieces s.data.toList) W2 := by
    refine pieces_seq _ s W2 (by omega) ?_ (by omega)
    rw [hW2]
    have h := (Boxed.new (w.alloc (.cells #[.slice none 0 0] 37)) 9 (.string s)).cell
    rw [World.size_alloc] at h
    exact h
  clear hW2
  refine wpIn_range_flat (gf := 53) (lb := #[.pointer (some ⟨w.heap.size + 1, 0, none⟩)]) rfl Tryd.piecesEnters hseq (fun W => KeepsT.refl W) (fun h k => h.trans k) (fun _ _ _ o' _ h ho _ => KeepsT.putObj o' h ho) (Below.refl _ _) (fun _ => rfl)
    (ClI w.heap.size w.heap.size w)
    (fun _ _ _ => False)
    (OwnFrom.and (Own.from (holdsRow_own _ _ _ _ _ (fun pre : List (List UInt8) => (pre.foldl cleanStep []).length) (fun pre => (pre.foldl cleanStep []).map encS) (fun _ _ => True)) _) (ownFrom_below (Nat.le_refl _) (by omega)))
    (fun _ _ _ _ _ hs _ _ => hs)
    ⟨⟨_, hbl, World.ownsRow_nil _ _ _ _, trivial⟩, hb2⟩ ?a1 ?assign ?body ?done ?stop
  case assign =>
    intro l' x Wx K hK
    gi_wp2
    exact hK
  case body =>
    rintro l' pre x rest Wx hl hr hL ⟨⟨v, hv, hrow, _⟩, hb⟩
    have hvc := hv.cell
    have hvf := hv.frozen
    have hfold : (pre ++ [x]).foldl cleanStep [] = cleanStep (pre.foldl cleanStep []) x := by rw [List.foldl_append]; rfl
    have hslen : (pre.foldl cleanStep []).length ≤ s.size := by rw [size_eq]; exact fold_length hL
    generalize pre.foldl cleanStep [] = st at *
    have Hb := Lib.hid hb
    have Hv := Lib.hid hv
    have Hrow := Lib.hid hrow
    have HL := Lib.hid hL
    have Hfold := Lib.hid hfold
    clear hb hv hrow hL hfold hseq hbl hb2
    by_cases h1 : x = [46]
    · have t1 : ((bs x).toList == [46]) = true := eqB_t h1
      have e1 : cleanStep st x = st := by unfold cleanStep; rw [if_pos h1]
      have E1 := Lib.hid e1
      clear h1 e1
      gi_wp2
      exact ⟨KeepsFrom.refl _ _, KeepsT.refl _, ⟨v, Hv.out, by rw [Hfold.out, E1.out]; exact Hrow.out, trivial⟩, Hb.out⟩
    have t1 : ((bs x).toList == [46]) = false := eqB_f h1
    by_cases h2 : x = [46, 46]
    · have t2 : ((bs x).toList == [46, 46]) = true := eqB_t h2
      have e1 : cleanStep st x = st.dropLast := by unfold cleanStep; rw [if_neg h1, if_pos h2]
      have E1 := Lib.hid e1
      clear h1 e1 h2
      rcases Hrow.out.2 with ⟨rfl, h0⟩ | ⟨g, cap, cur, rfl, hg, hgb, hcap, hcm, _⟩
      · obtain rfl : st = [] := List.eq_nil_of_length_eq_zero h0
        have hmx : max (0 : Int) (-1) = 0 := by decide
        gi_wp2
        exact ⟨(KeepsOthers.setCell _ _ _).from _, KeepsT.setCell _ (fun cs fz h => box_ne Hv.out (by decide) h), ⟨_, Hv.out.set _, by rw [Hfold.out, E1.out]; exact World.ownsRow_nil _ _ _ _, trivial⟩, Hb.out.setCell (p := ⟨w.heap.size, 0, none⟩) (Nat.le_refl _) _⟩
      · have hpop := own_pop Hrow.out
        have Hpop := Lib.hid hpop
        have Hgb := Lib.hid hgb
        clear hpop hgb
        generalize hn : st.length = n at *
        have Hn := Lib.hid hn
        clear hn
        have hmx : max (0 : Int) ((n : Int) - 1) = ((n - 1 : Nat) : Int) := by omega
        gi_wp2
        refine ⟨(KeepsOthers.setCell _ _ _).from _, KeepsT.setCell _ (fun cs fz h => box_ne Hv.out (by decide) h), ⟨_, Hv.out.set _, ?_, trivial⟩, Hb.out.setCell (p := ⟨w.heap.size, 0, none⟩) (Nat.le_refl _) _⟩
        rw [Hfold.out, E1.out, List.length_dropLast, Hn.out, List.map_dropLast]
        refine Hpop.out.kept (grownBy_setCell' _ _ _) (.inr ?_)
        intro e
        have hh : Wx.heap[w.heap.size]? = some (.cells #[.slice (some ⟨g, 0, none⟩) n cap] 37 (0, 0)) := Hv.out
        have hgw : g = w.heap.size := by simpa [Value.ownBlock] using e
        have h2 := Hgb.out
        rw [hgw, hh] at h2
        simp at h2
    · have t2 : ((bs x).toList == [46, 46]) = false := eqB_f h2
      have e1 : cleanStep st x = st ++ [x] := by unfold cleanStep; rw [if_neg h1, if_neg h2]
      have E1 := Lib.hid e1
      clear h1 e1 h2
      have hbs := Hb.out.size
      gi_wp2_with (gi_at_builtin; refine wpListIn_append_own _ rfl _ _ 37 rfl w.heap.size 9 i0 (.string ⟨#[]⟩) 1 16 Tryd.underlying37 Hi.out Hz0.out Hz1.out Hz2.out rfl (by decide) _ _ _ rfl (Hrow.out.alloc _) ⟨Wx.heap.size, 0, none⟩ 1 1 [encS x] rfl rfl (cell_one_new _ _ _) (by simp [Value.oneCell', encS]) (by unfold maxLen; omega) (by omega) (by simp; omega) ?_; intro v' w1 hown' hgrow _; obtain ⟨g', cap', rfl⟩ := ownsRow_succ hown'; obtain ⟨hv1, hv2, hr2, hk2, hb3⟩ := Hv.out.appended (by decide) Hrow.out hbs (Nat.le_refl _) hown' hgrow; have hc1 := hv1.cell; have hf1 := hv1.frozen; have Hkt := Lib.hid (keepsT_appended (T := 28) (v' := .slice (some ⟨g', 0, none⟩) (st.length + 1) cap') (by decide) (by decide) Hrow.out hgrow hv1))
      have Hk2 := Lib.hid hk2
      have Hb3 := Lib.hid hb3
      exact ⟨Hk2.out.from _, Hkt.out, ⟨_, hv2, by rw [Hfold.out, E1.out, List.length_append, List.length_singleton, List.map_append]; exact hr2, trivial⟩, Hb.out.trans Hb3.out⟩
  case done =>
    rintro D Wd hD ⟨⟨v, hv, hrow, _⟩, hb⟩ hK
    have hvc := hv.cell
    have hw := weight_clean s.data.toList
    have hjl := join_length (cleanPieces s.data.toList) [47] rfl
    rw [← size_eq] at hw
    have hc0 : (pieces s.data.toList).foldl cleanStep [] = cleanPieces s.data.toList := rfl
    have hfin : bs (cleanP s.data.toList) = bs (Lib.join (cleanPieces s.data.toList) [47]) := rfl
    rw [hc0] at hrow
    have hwl := weight_length (cleanPieces s.data.toList)
    generalize cleanPieces s.data.toList = st at *
    have Hb := Lib.hid hb
    have Hv := Lib.hid hv
    have Hrow := Lib.hid hrow
    have HK := Lib.hid hK
    have Hfin := Lib.hid hfin
    clear hb hv hrow hK hfin hc0 hseq hbl hb2
    have hj : ∃ a n c, v = .slice a n c ∧ ∀ W, Below Wd.heap.size Wd W → Calls Tryd.prog 50 #[.slice a n c, .string ⟨#[47]⟩] W fun e w' => e = .returned (.string (bs (Lib.join st [47]))) ∧ Below W.heap.size W w' := by
      rcases Hrow.out.2 with ⟨rfl, h0⟩ | ⟨g, cap, cur, rfl, hg, hgb, hcap, hcm, _⟩
      · obtain rfl : st = [] := List.eq_nil_of_length_eq_zero h0
        exact ⟨none, 0, 0, rfl, fun W _ => (Tryd.strings_Join_none none 0 ⟨#[47]⟩ W).mono (by rintro e w' ⟨rfl, rfl⟩; exact ⟨rfl, Below.refl _ _⟩)⟩
      · refine ⟨_, _, _, rfl, fun W hW => ?_⟩
        have hglt : g < Wd.heap.size := (Array.getElem?_eq_some_iff.1 hgb).1
        by_cases hn : st = []
        · subst hn
          exact (Tryd.strings_Join_none (some ⟨g, 0, none⟩) cap ⟨#[47]⟩ W).mono (by rintro e w' ⟨rfl, rfl⟩; exact ⟨rfl, Below.refl _ _⟩)
        · have h := Tryd.strings_Join g 0 cap (st.map bs) ⟨#[47]⟩ W (by
            intro j x hj
            rw [List.getElem?_map] at hj
            obtain ⟨p, hp, rfl⟩ := Option.map_eq_some_iff.1 hj
            have hlt : j < st.length := (List.getElem?_eq_some_iff.1 hp).1
            have hc := World.ownsRow.cellAt Hrow.out j (by omega)
            rw [List.getElem?_map, hp] at hc
            refine (hW.cell (p := ⟨g, 0 + j, none⟩) hglt).trans ?_
            rw [Nat.zero_add, hc]
            rfl) (Nat.lt_of_lt_of_le hglt hW.size) (by simp; omega) (by simp; omega) (by
            rw [List.map_map]
            have : ((fun x : ByteArray => x.data.toList) ∘ bs) = id := by funext x; rfl
            rw [this, List.map_id]
            show (Lib.join st [47]).length ≤ _
            omega)
          rw [List.map_map, List.length_map] at h
          have : ((fun x : ByteArray => x.data.toList) ∘ bs) = id := by funext x; rfl
          rw [this, List.map_id] at h
          exact h
    obtain ⟨a, n, c, rfl, hj⟩ := hj
    have Hj := Lib.hid hj
    clear hj
    gi_wp2_with (refine ⟨trivial, rfl, ?_⟩; gi_at_call 50; refine CallsIn.mono (callsIn_wide.2 (Hj.out _ (Below.refl _ _))) ?_; rintro e w1 ⟨rfl, hb1⟩; have Hb1 := Lib.hid hb1; clear hb1)
    refine leave_mark (deferred_below HK.out Hb1.out) (results_tmp rfl _ _ _) ⟨by rw [Hfin.out]; rfl, below_putObj (Hb.out.trans (Hb1.out.mono Hb.out.size)) _ (by omega)⟩
  case stop =>
    rintro D c pre x rest Wd hD hL h hK
    exact h.elim
end Go.Proofs.YtknhjoikoodapaaDoor
