/- The contract of resolve.pieces. -/
import Derived.Test.YtdkodedocklmdaaGreatRef
set_option linter.unusedSimpArgs false
set_option linter.unusedVariables false
namespace Go.Proofs.YtdkodedocklmdaaGreat
open Go.RowKit Go.Shelf
open Go.Lib hiding intOf
attribute [local go_sem] Oper.semAt_some
def PcI (base B : Nat) (w : World) (pre : List (List UInt8)) (W : World) : Prop :=
  (∃ v, Boxed W B 43 v ∧ W.ownsRow base 9 1 v pre.length (pre.map encS) ∧ True) ∧ Below base w W
theorem texts_putObj {W : World} {base D : Nat} {v : Value} {L : List (List UInt8)} (h : Texts W base v L) {o : Obj} (o' : Obj) (hD : W.heap[D]? = some o) (ho : o.isCells = false) : Texts (W.putObj D o') base v L := by
  obtain ⟨h1, h2⟩ := h
  refine ⟨h1, ?_⟩
  rcases h2 with h2 | ⟨g, cap, cur, a, b, c, d⟩
  · exact .inl h2
  · refine .inr ⟨g, cap, cur, a, b, ?_, d⟩
    rw [World.putObj_heap_other]
    · exact c
    · rintro rfl
      rw [hD] at c
      injection c with c
      subst c
      cases ho
set_option maxRecDepth 100000 in
set_option maxHeartbeats 4000000 in
theorem pieces_any (s : ByteArray) (w : World) (hs : s.size ≤ 1099511627776) :
    Calls Tryz.prog 18 #[.string s] w fun e w' => ∃ v, e = .returned v ∧ Texts w' w.heap.size v (pieces s.data.toList) ∧ Below w.heap.size w w' := by
  obtain ⟨i0, hi, hz0, hz1, hz2⟩ := info_parts Tryz.infoString
  refine (callsIn_wide (n := 0)).1 ?_
  refine callsIn_of_wp_marks Tryz.func18 rfl trivial ?_ rfl
  simp only [Tryz.ntmps18, List.size_toArray, List.length_cons, List.length_nil, Nat.reduceAdd, Nat.reduceSub, Array.replicate_succ, Array.replicate_zero, List.push_toArray, List.append_toArray, List.nil_append, List.cons_append]
  have hwl := weight_length (pieces s.data.toList)
  have hwp := weight_pieces s.data.toList
  rw [← size_eq] at hwp
  have Hall := Lib.hid (fun W => piecesFn_any s W)
  have Hi := Lib.hid hi
  have Hz0 := Lib.hid hz0
  have Hz1 := Lib.hid hz1
  have Hz2 := Lib.hid hz2
  have Hwl := Lib.hid hwl
  have Hwp := Lib.hid hwp
  clear hi hz0 hz1 hz2 hwl hwp
  gi_wp2_with (refine ⟨trivial, rfl, ?_⟩; gi_at_call 33; refine CallsIn.mono (callsIn_wide.2 (Hall.out _)) ?_; rintro e w1 ⟨rfl, rfl⟩)
  obtain ⟨W2, hW2⟩ : ∃ W2, W2 = (w.alloc (.cells #[.slice none 0 0] 43)).alloc (.cells #[.string s] 9) := ⟨_, rfl⟩
  rw [← hW2]
  have hsz : W2.heap.size = w.heap.size + 2 := by rw [hW2]; simp
  have hbl : Boxed W2 w.heap.size 43 (.slice none 0 0) := by rw [hW2]; exact (Boxed.new w _ _).alloc _
  have hb2 : Below w.heap.size w W2 := by rw [hW2]; exact ((Below.refl _ _).alloc (Nat.le_refl _) _).alloc (by simp) _
  have hseq : SeqL Tryz.prog 53 #[.pointer (some ⟨w.heap.size + 1, 0, none⟩)] (fun p => #[.string (bs p)]) (KeepsT 89) (pieces s.data.toList) W2 := by
    refine pieces_seq _ s W2 (by omega) ?_ (by omega)
    rw [hW2]
    have h := (Boxed.new (w.alloc (.cells #[.slice none 0 0] 43)) 9 (.string s)).cell
    rw [World.size_alloc] at h
    exact h
  clear hW2
  refine wpIn_range_flat (gf := 53) (lb := #[.pointer (some ⟨w.heap.size + 1, 0, none⟩)]) rfl Tryz.piecesEnters hseq (fun W => KeepsT.refl W) (fun h k => h.trans k) (fun _ _ _ o' _ h ho _ => KeepsT.putObj o' h ho) (Below.refl _ _) (fun _ => rfl)
    (PcI w.heap.size w.heap.size w)
    (fun _ _ _ => False)
    (OwnFrom.and (Own.from (holdsRow_own _ _ _ _ _ (fun pre : List (List UInt8) => pre.length) (fun pre => pre.map encS) (fun _ _ => True)) _) (ownFrom_below (Nat.le_refl _) (by omega)))
    (fun _ _ _ _ _ hs _ _ => hs)
    ⟨⟨_, hbl, World.ownsRow_nil _ _ _ _, trivial⟩, hb2⟩ ?a1 ?assign ?body ?done ?stop
  case assign =>
    intro l' x Wx K hK
    gi_wp2
    exact hK
  case body =>
    rintro l' pre x rest Wx hl hr hL ⟨⟨v, hv, hrow, _⟩, hb⟩
    have hvc := hv.cell
    have hvf := hv.frozen
    have hslen : pre.length ≤ s.size + 1 := by
      have h1 := Hwl.out
      have h2 := Hwp.out
      rw [hL] at h1
      rw [hL] at h2
      simp at h1
      omega
    have hbs := hb.size
    have Hb := Lib.hid hb
    have Hv := Lib.hid hv
    have Hrow := Lib.hid hrow
    have HL := Lib.hid hL
    clear hb hv hrow hL hseq hbl hb2
    generalize hn : pre.length = n at *
    have Hn := Lib.hid hn
    clear hn
    gi_wp2_with (gi_at_builtin; refine wpListIn_append_own _ rfl _ _ 43 rfl w.heap.size 9 i0 (.string ⟨#[]⟩) 1 16 Tryz.underlying43 Hi.out Hz0.out Hz1.out Hz2.out rfl (by decide) _ _ _ rfl (Hrow.out.alloc _) ⟨Wx.heap.size, 0, none⟩ 1 1 [encS x] rfl rfl (cell_one_new _ _ _) (by simp [Value.oneCell', encS]) (by unfold maxLen; omega) (by omega) (by simp; omega) ?_; intro v' w1 hown' hgrow _; obtain ⟨g', cap', rfl⟩ := ownsRow_succ hown'; obtain ⟨hv1, hv2, hr2, hk2, hb3⟩ := Hv.out.appended (by decide) Hrow.out hbs (Nat.le_refl _) hown' hgrow; have hc1 := hv1.cell; have hf1 := hv1.frozen; have Hkt := Lib.hid (keepsT_appended (T := 89) (v' := .slice (some ⟨g', 0, none⟩) (n + 1) cap') (by decide) (by decide) Hrow.out hgrow hv1))
    have Hk2 := Lib.hid hk2
    have Hb3 := Lib.hid hb3
    exact ⟨Hk2.out.from _, Hkt.out, ⟨_, hv2, by rw [List.length_append, List.length_singleton, List.map_append, Hn.out]; exact hr2, trivial⟩, Hb.out.trans Hb3.out⟩
  case done =>
    rintro D Wd hD ⟨⟨v, hv, hrow, _⟩, hb⟩ hK
    have hvc := hv.cell
    have Hb := Lib.hid hb
    have Hv := Lib.hid hv
    have Hrow := Lib.hid hrow
    have HK := Lib.hid hK
    clear hb hv hrow hK hseq hbl hb2
    gi_wp2_with fail
    exact leave_mark HK.out (results_tmp rfl _ _ _) ⟨v, rfl, texts_putObj Hrow.out _ HK.out rfl, below_putObj Hb.out _ (by omega)⟩
  case stop =>
    rintro D c pre x rest Wd hD hL h hK
    exact h.elim
end Go.Proofs.YtdkodedocklmdaaGreat
