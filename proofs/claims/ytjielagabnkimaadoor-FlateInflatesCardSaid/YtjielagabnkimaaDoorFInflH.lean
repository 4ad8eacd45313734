/- flate.Inflate: what it answers. -/
import Derived.Test.YtjielagabnkimaaDoorFInflG
import Derived.Test.YtjielagabnkimaaDoorFDeflate
set_option linter.unusedSimpArgs false
set_option linter.unusedVariables false
namespace Go.Proofs.YtjielagabnkimaaDoor
open Go.RowKit

set_option maxRecDepth 100000 in
set_option maxHeartbeats 4000000 in
theorem blk0_any (w W : World) (M T K E R O base : Nat) (s : ByteArray) (most : Int) (n : Nat) (tm : Array Value) (out : List UInt8) (r : List Bool) (res : Except Nat (List UInt8 × Nat)) (Q : Exit → Act → World → Prop)
    (hE : OEnv w M T K E R O base s most) (hQ : InfQ w M T K E R O most res Q) (herr : ∀ no, inflGo most n out r = .error no → res = .error no)
    (hF : IFr tm M T K E R O) (hen : tm.getD 10 undef = .bool false) (hI : InfAt w W M T K E R O base s most out r) (hom : out.length = 0 ∨ (out.length : Int) ≤ most) (hrl : r.length < n)
    (hnext : ∀ tm' W' out' r', IFr tm' M T K E R O → InfAt w W' M T K E R O base s most out' r' → (out'.length = 0 ∨ (out'.length : Int) ≤ most) → inflGo most n out r = .ok (out', r') → Q .normal ⟨tm', infD T K E⟩ W') :
    Code.wp Tryd.prog blk0 Q ⟨tm, infD T K E⟩ W := by
  conv => arg 2; whnf
  refine wp_block ?_
  refine wp_loop_ghost_k (OI w M T K E R O base s most (inflGo most n out r)) n ⟨tm, false, out, r, rfl, hF, hen, hI, hom, .inr ⟨rfl, hrl, rfl⟩⟩ ?_
  rintro m a wr ⟨tm2, en2, out2, r2, rfl, hF2, hen2, hI2, hom2, hc⟩ J K2 hJ hK
  rcases hc with ⟨rfl, hT⟩ | ⟨rfl, hrl2, hgo2⟩
  · exact rnd0_end w wr M T K E R O tm2 (Exit.inBlock 0 Q) K2 hF2 hen2 (fun tm' hF' => hnext tm' wr out2 r2 hF' hI2 hom2 hT)
  · exact rnd0_any w wr M T K E R O base s most _ m tm2 out2 r2 res (Exit.inBlock 0 Q) K2 hE (hQ.inBlock 0) herr hF2 hen2 hI2 hom2 hrl2 hgo2 (fun n' a' w' hlt h => hK a' w' ⟨n', hlt, hJ n' a' w' h⟩)
theorem InfAt.bytes {w W : World} {M T K E R O base : Nat} {s : ByteArray} {most : Int} {out : List UInt8} {r : List Bool} (h : InfAt w W M T K E R O base s most out r) :
    ∃ v, W.cell? ⟨O, 0, none⟩ = some v ∧ ∀ W2 : World, (∀ k, k ≠ T → k ≠ K → k ≠ E → W2.heap[k]? = W.heap[k]?) → (convert 39 9 v).run Tryd.prog W2 = .ok (.string (bs out)) W2 := by
  obtain ⟨ov, hb, hr⟩ := h.out
  have ho := h.o
  have hlo := h.l.o
  refine ⟨ov, hb.cell, fun W2 hW => ?_⟩
  obtain ⟨p, q, c, rfl⟩ := ownsRow_slice hr
  rcases hr.2 with ⟨h1, h2⟩ | ⟨g, cap, cur, h1, hb2, hg, h3, h4, h5, htk⟩
  · rw [h1]
    obtain rfl : out = [] := List.eq_nil_of_length_eq_zero h2
    have hn : ∀ W : World, (convert 39 9 (.slice none 0 0)).run Tryd.prog W = .ok (.string ⟨#[]⟩) W := fun _ => by kernel_rfl
    exact hn _
  · rw [h1]
    rw [Nat.mul_one] at htk
    exact conv_bytes W2 0 g out.length cap out rfl (cells_take (w := W2) ((hW g (by omega) (by omega) (by omega)).trans hg) htk)

set_option maxRecDepth 100000 in
set_option maxHeartbeats 8000000 in
theorem inflate_any (s : ByteArray) (most : Int) (w : World) (hs : s.size < 2 ^ 40) (hm : most < 2 ^ 40) (hT : Tabs w) (hO : OrdAt w) :
    Calls Tryd.prog 16 #[.string s, .int .i64 most] w fun e w' => InfOut w (inflP s.data.toList most) e w' := by
  obtain ⟨res, hres⟩ : ∃ r, r = inflP s.data.toList most := ⟨_, rfl⟩
  rw [← hres]
  unfold inflP at hres
  obtain ⟨g, hg⟩ : ∃ g, g = 8 * s.data.toList.length + 1 := ⟨_, rfl⟩
  rw [← hg] at hres
  obtain ⟨wa, hwa⟩ : ∃ x, x = (((((w.alloc (.cells #[.int .i64 most] 3)).alloc (.cells #[.string ⟨#[]⟩] 9)).alloc (.cells #[.int .i64 0] 3)).alloc (.cells #[.nilIface] 30)).alloc (.cells #[.string s, .int .i64 0, .int .i64 0, .int .i64 0] 60)).alloc (.cells #[.slice none 0 0] 39) := ⟨_, rfl⟩
  have h4 : 3 < w.heap.size := hT.2.2
  have hb : ∀ k, k < w.heap.size → wa.heap[k]? = w.heap[k]? := by
    intro k hk
    rw [hwa]
    iterate 6 rw [heap_alloc_old _ _ (by (try simp only [World.size_alloc]); omega)]
  have hz : wa.heap.size = w.heap.size + 1 + 1 + 1 + 1 + 1 + 1 := by rw [hwa]; simp
  have b0 : Boxed wa w.heap.size 3 (.int .i64 most) := by
    unfold Boxed
    rw [hwa]
    iterate 5 rw [heap_alloc_old _ _ (by simp only [World.size_alloc]; omega)]
    exact World.alloc_heap_new w _
  have b1 : Boxed wa (w.heap.size + 1) 9 (.string ⟨#[]⟩) := by
    unfold Boxed
    rw [hwa]
    iterate 4 rw [heap_alloc_old _ _ (by simp only [World.size_alloc]; omega)]
    have h := World.alloc_heap_new (w.alloc (.cells #[.int .i64 most] 3)) (.cells #[.string ⟨#[]⟩] 9)
    simp only [World.size_alloc] at h
    exact h
  have b2 : Boxed wa (w.heap.size + 1 + 1) 3 (.int .i64 0) := by
    unfold Boxed
    rw [hwa]
    iterate 3 rw [heap_alloc_old _ _ (by simp only [World.size_alloc]; omega)]
    have h := World.alloc_heap_new ((w.alloc (.cells #[.int .i64 most] 3)).alloc (.cells #[.string ⟨#[]⟩] 9)) (.cells #[.int .i64 0] 3)
    simp only [World.size_alloc] at h
    exact h
  have b3 : Boxed wa (w.heap.size + 1 + 1 + 1) 30 .nilIface := by
    unfold Boxed
    rw [hwa]
    iterate 2 rw [heap_alloc_old _ _ (by simp only [World.size_alloc]; omega)]
    have h := World.alloc_heap_new (((w.alloc (.cells #[.int .i64 most] 3)).alloc (.cells #[.string ⟨#[]⟩] 9)).alloc (.cells #[.int .i64 0] 3)) (.cells #[.nilIface] 30)
    simp only [World.size_alloc] at h
    exact h
  have b4 : wa.heap[w.heap.size + 1 + 1 + 1 + 1]? = some (.cells #[.string s, .int .i64 0, .int .i64 0, .int .i64 0] 60 (0, 0)) := by
    rw [hwa, heap_alloc_old _ _ (by simp only [World.size_alloc]; omega)]
    have h := World.alloc_heap_new ((((w.alloc (.cells #[.int .i64 most] 3)).alloc (.cells #[.string ⟨#[]⟩] 9)).alloc (.cells #[.int .i64 0] 3)).alloc (.cells #[.nilIface] 30)) (.cells #[.string s, .int .i64 0, .int .i64 0, .int .i64 0] 60)
    simp only [World.size_alloc] at h
    exact h
  have b5 : Boxed wa (w.heap.size + 1 + 1 + 1 + 1 + 1) 39 (.slice none 0 0) := by
    unfold Boxed
    rw [hwa]
    have h := World.alloc_heap_new (((((w.alloc (.cells #[.int .i64 most] 3)).alloc (.cells #[.string ⟨#[]⟩] 9)).alloc (.cells #[.int .i64 0] 3)).alloc (.cells #[.nilIface] 30)).alloc (.cells #[.string s, .int .i64 0, .int .i64 0, .int .i64 0] 60)) (.cells #[.slice none 0 0] 39)
    simp only [World.size_alloc] at h
    exact h
  have hlow : Below w.heap.size w wa := by
    rw [hwa]
    exact ⟨rfl, rfl, rfl, by simp only [World.size_alloc]; omega, fun k hk => by rw [← hwa]; exact hb k hk⟩
  have hIa : InfAt w wa w.heap.size (w.heap.size + 1) (w.heap.size + 1 + 1) (w.heap.size + 1 + 1 + 1) (w.heap.size + 1 + 1 + 1 + 1) (w.heap.size + 1 + 1 + 1 + 1 + 1) (w.heap.size + 1 + 1 + 1 + 1 + 1 + 1) s most [] (bitsOf s.data.toList) := by
    refine ⟨⟨b0, b1, b2, b3, hlow, by omega⟩, ⟨0, 0, 0, ⟨b4, Nat.zero_le _, by decide, rfl⟩, by decide⟩, ⟨_, b5, World.ownsRow_nil _ _ _ _⟩, by omega⟩
  have hOE : OEnv w w.heap.size (w.heap.size + 1) (w.heap.size + 1 + 1) (w.heap.size + 1 + 1 + 1) (w.heap.size + 1 + 1 + 1 + 1) (w.heap.size + 1 + 1 + 1 + 1 + 1) (w.heap.size + 1 + 1 + 1 + 1 + 1 + 1) s most := ⟨hT, hO, h4, by omega, by omega, hs, hm⟩
  have herr : ∀ no, inflGo most g [] (bitsOf s.data.toList) = .error no → res = .error no := fun no h => by rw [hres, h]
  have hok : ∀ o r, inflGo most g [] (bitsOf s.data.toList) = .ok (o, r) → res = .ok (o, s.data.toList.length - r.length / 8) := fun o r h => by rw [hres, h]
  have hrl : (bitsOf s.data.toList).length < g := by rw [bitsOf_length, hg]; omega
  have HIa := Lib.hid hIa
  have HOE := Lib.hid hOE
  have Herr := Lib.hid herr
  have Hok := Lib.hid hok
  have Hrl := Lib.hid hrl
  have Hwa := Lib.hid hwa
  have hsl : s.data.toList.length = s.size := rfl
  have Hsl := Lib.hid hsl
  clear hb hz b0 b1 b2 b3 b4 b5 hlow hIa hOE herr hok hrl hwa hres hT hO hg hsl
  go_enter_defers Tryd.func16, Tryd.ntmps16
  go_upto_block 0 with fail
  rw [← Hwa.out]
  refine blk0_any w wa w.heap.size (w.heap.size + 1) (w.heap.size + 1 + 1) (w.heap.size + 1 + 1 + 1) (w.heap.size + 1 + 1 + 1 + 1) (w.heap.size + 1 + 1 + 1 + 1 + 1) (w.heap.size + 1 + 1 + 1 + 1 + 1 + 1) s most g _ [] (bitsOf s.data.toList) res _ HOE.out ?_ Herr.out ⟨rfl, rfl, rfl, rfl, rfl, rfl, rfl, rfl⟩ rfl HIa.out (.inl rfl) Hrl.out ?_
  · refine ⟨?_, ?_, ?_⟩
    · rintro no tm W hF hl hr
      refine leave_pan hF.2.2.1 hF.2.2.2.1 hF.2.2.2.2.1 hl ?_
      intro w' hb
      rw [hr]
      exact ⟨hb, rfl⟩
    · rintro no tm W hF hl hr
      refine leave_ret (w := w) hF.2.2.1 hF.2.2.2.1 hF.2.2.2.2.1 hl.1 hl.2.1 hl.2.2.1 ?_
      rw [hr]
      exact ⟨hl.2.2.2, rfl⟩
    · exact fun c a i v W hi h => inf_frame _ c a i v W hi h
  · intro tm' W' out' r' hF' hI' hom' hTT
    have hr := Hok.out _ _ hTT
    obtain ⟨x, rfl⟩ := hF'.open
    obtain ⟨v, cO, hcv⟩ := hI'.bytes
    obtain ⟨a0, h0, v0, hin, hv8⟩ := hI'.src
    obtain ⟨s0, s1, s2, s3, z1, z2, z3⟩ := hin.cells
    obtain ⟨e1, e2, e3, e4, e5, e6, e7, e8, e9, e10, e11, e12, e13⟩ := hI'.l.cells
    have hle := hin.le
    have htook : res = .ok (out', a0) := by
      rw [hr, hin.r, List.length_append, low_length, bitsOf_length, List.length_drop, Hsl.out]
      congr 2
      omega
    have hv0 : ((v0 : Nat) : Int) / 8 = 0 := by omega
    have Hl := Lib.hid hI'.l
    have Htook := Lib.hid htook
    have Hv0 := Lib.hid hv0
    have Hcv := Lib.hid hcv
    clear hcv hr htook hI' hF' hTT hom' hin hv0
    unfold infD
    have hc1 : (convert 39 9 v).run Tryd.prog W'.drew = .ok (.string (bs out')) W'.drew := Hcv.out _ (fun _ _ _ _ => rfl)
    have hc2 : ∀ x, (convert 39 9 v).run Tryd.prog (W'.setCell ⟨w.heap.size + 1, 0, none⟩ x).drew = .ok (.string (bs out')) (W'.setCell ⟨w.heap.size + 1, 0, none⟩ x).drew := fun x => Hcv.out _ (fun k h1 h2 h3 => heap_setCell_other W' ⟨w.heap.size + 1, 0, none⟩ k x h1)
    have hc3 : ∀ x y, (convert 39 9 v).run Tryd.prog ((W'.setCell ⟨w.heap.size + 1, 0, none⟩ x).setCell ⟨w.heap.size + 1 + 1, 0, none⟩ y).drew = .ok (.string (bs out')) ((W'.setCell ⟨w.heap.size + 1, 0, none⟩ x).setCell ⟨w.heap.size + 1 + 1, 0, none⟩ y).drew := fun x y => Hcv.out _ (fun k h1 h2 h3 => (heap_setCell_other (W'.setCell ⟨w.heap.size + 1, 0, none⟩ x) ⟨w.heap.size + 1 + 1, 0, none⟩ k y h2).trans (heap_setCell_other W' ⟨w.heap.size + 1, 0, none⟩ k x h1))
    have hc4 : ∀ x y z, (convert 39 9 v).run Tryd.prog (((W'.setCell ⟨w.heap.size + 1, 0, none⟩ x).setCell ⟨w.heap.size + 1 + 1, 0, none⟩ y).setCell ⟨w.heap.size + 1 + 1 + 1, 0, none⟩ z).drew = .ok (.string (bs out')) (((W'.setCell ⟨w.heap.size + 1, 0, none⟩ x).setCell ⟨w.heap.size + 1 + 1, 0, none⟩ y).setCell ⟨w.heap.size + 1 + 1 + 1, 0, none⟩ z).drew := fun x y z => Hcv.out _ (fun k h1 h2 h3 => (heap_setCell_other ((W'.setCell ⟨w.heap.size + 1, 0, none⟩ x).setCell ⟨w.heap.size + 1 + 1, 0, none⟩ y) ⟨w.heap.size + 1 + 1 + 1, 0, none⟩ k z h3).trans ((heap_setCell_other (W'.setCell ⟨w.heap.size + 1, 0, none⟩ x) ⟨w.heap.size + 1 + 1, 0, none⟩ k y h2).trans (heap_setCell_other W' ⟨w.heap.size + 1, 0, none⟩ k x h1)))
    go_wp2_with fail
    go_region_held3 (fun w' => w'.cell? ⟨w.heap.size + 1 + 1 + 1 + 1 + 1, 0, none⟩ = some v ∧ w'.cell? ⟨w.heap.size + 1 + 1 + 1 + 1, 1, none⟩ = some (.int .i64 (a0 : Int)) ∧ w'.cell? ⟨w.heap.size + 1 + 1 + 1 + 1, 3, none⟩ = some (.int .i64 (v0 : Int)) ∧ (convert 39 9 v).run Tryd.prog w' = .ok (.string (bs out')) w')
      (go_keep)
      (fail)
    all_goals
      go_wp2_with fail
      refine leave_ret (w := w) rfl rfl rfl (((Hl.out.t.set _).other (by omega) _).other (by omega) _) (((Hl.out.k.other (by omega) _).set _).other (by omega) _) (((Hl.out.e.other (by omega) _).other (by omega) _).set _) ?_
      rw [Htook.out]
      refine ⟨below_drew (((Hl.out.low.setCell (p := ⟨w.heap.size + 1, 0, none⟩) (by show w.heap.size ≤ w.heap.size + 1; omega) _).setCell (p := ⟨w.heap.size + 1 + 1, 0, none⟩) (by show w.heap.size ≤ w.heap.size + 1 + 1; omega) _).setCell (p := ⟨w.heap.size + 1 + 1 + 1, 0, none⟩) (by show w.heap.size ≤ w.heap.size + 1 + 1 + 1; omega) _), ?_⟩
      have e1 : IntKind.i64.wrap ((v0 : Int) / 8) = 0 := by rw [Hv0.out]; exact IntWalk.i64_in _ (by omega)
      have e2 : IntKind.i64.wrap ((a0 : Int) - IntKind.i64.wrap ((v0 : Int) / 8)) = (a0 : Int) := by rw [e1, Int.sub_zero]; exact IntWalk.i64_in _ (by omega)
      rw [e2]
      rfl
end Go.Proofs.YtjielagabnkimaaDoor
