/- The contract of tree.itself. -/
import Derived.Test.YtfanfkogogijpaaGreatDoorTReach
import Derived.Test.YtfanfkogogijpaaGreatDoorCheck
import Derived.Lib.IndexLaws
set_option linter.unusedSimpArgs false
set_option linter.unusedVariables false
namespace Go.Proofs.YtfanfkogogijpaaGreatDoor
open Go.RowKit
open Go.Lib hiding intOf
theorem index_has {l : List UInt8} {c : UInt8} : 0 ≤ Lib.indexByte l c ↔ c ∈ l := by
  have hge := Lib.indexByte_ge l c
  constructor
  · intro h
    obtain ⟨o, ho⟩ : ∃ o : Nat, Lib.indexByte l c = o := ⟨(Lib.indexByte l c).toNat, by omega⟩
    exact List.mem_of_getElem? (Lib.indexByte_some ho).1
  · intro h
    obtain ⟨k, hk⟩ := List.mem_iff_getElem?.1 h
    by_cases h1 : Lib.indexByte l c = -1
    · exact absurd hk (Lib.indexByte_none h1 k)
    · omega
theorem errV_pos {n : Nat} (h : n ≠ 0) : errV n = .iface 65 (.int .i64 (n : Int)) := by
  cases n with
  | zero => exact absurd rfl h
  | succ n => rfl
set_option maxRecDepth 100000 in
set_option maxHeartbeats 8000000 in
theorem itself_any (e : Ent) (w : World) (hs : e.p.size < 1152921504606846976) (hl : e.l.size < 1152921504606846976) (hd : e.d.size < 1152921504606846976) :
    Calls Tryz.prog 20 #[entV e] w fun r w' => r = .returned (errV (itselfNo e)) ∧ Below w.heap.size w w' := by
  obtain ⟨p, k, m, d, l⟩ := e
  show Calls _ _ #[.agg #[.string p, .int .i64 k, .int .i64 m, .string d, .string l]] _ _
  have hch := fun W => check_any p W hs
  have hix := fun W => Tryz.strings_IndexByte l 0 W
  have hz := @index_has l.data.toList 0
  have hp : (⟨p, k, m, d, l⟩ : Ent).path = p.data.toList := rfl
  have hin : itselfNo ⟨p, k, m, d, l⟩ = if ¬ (k = 1 ∨ k = 2 ∨ k = 3) then 14
    else if checkNo p.data.toList ≠ 0 then checkNo p.data.toList
    else if m < 0 ∨ 4095 < m ∨ (k = 3 ∧ m ≠ 511) then 16
    else if k = 3 ∧ (l.data.toList = [] ∨ 100 < l.size ∨ (0 : UInt8) ∈ l.data.toList) then 17
    else if k = 2 ∧ 1048576 < d.size then 5
    else if (k ≠ 2 ∧ d.data.toList ≠ []) ∨ (k ≠ 3 ∧ l.data.toList ≠ []) then 4
    else 0 := rfl
  simp only [← hz] at hin
  rw [show Lib.indexByte l.data.toList (0 : Int).toNat.toUInt8 = Lib.indexByte l.data.toList 0 from rfl] at hix
  generalize Lib.indexByte l.data.toList 0 = z at *
  have hlsz : l.data.toList = [] → l.size = 0 := fun h => by rw [Lib.size_eq, h]; rfl
  generalize hN : itselfNo ⟨p, k, m, d, l⟩ = N at *
  have cb : ∀ W, Below (w.heap.size + 1) (w.alloc (.cells #[.string p, .int .i64 k, .int .i64 m, .string d, .string l] 33)) W → W.heap[w.heap.size]? = some (.cells #[.string p, .int .i64 k, .int .i64 m, .string d, .string l] 33 (0, 0)) := fun W hb => by
    rw [hb.block _ (by omega)]
    exact World.alloc_heap_new w _
  have cw : ∀ W, Below (w.heap.size + 1) (w.alloc (.cells #[.string p, .int .i64 k, .int .i64 m, .string d, .string l] 33)) W → Below w.heap.size w W := fun W hb =>
    ((Below.refl _ _).alloc (Nat.le_refl _) _).trans (hb.mono (by omega))
  have Cw := Lib.hid cw
  have ccell : ∀ W, Below (w.heap.size + 1) (w.alloc (.cells #[.string p, .int .i64 k, .int .i64 m, .string d, .string l] 33)) W → W.cell? ⟨w.heap.size, 0, none⟩ = some (.string p) ∧ W.cell? ⟨w.heap.size, 1, none⟩ = some (.int .i64 k) ∧ W.cell? ⟨w.heap.size, 2, none⟩ = some (.int .i64 m) ∧ W.cell? ⟨w.heap.size, 3, none⟩ = some (.string d) ∧ W.cell? ⟨w.heap.size, 4, none⟩ = some (.string l) := fun W hb => by
    have := cb W hb
    unfold World.cell?
    simp [this]
  have Cc := Lib.hid ccell
  have Hch := Lib.hid hch
  have Hix := Lib.hid hix
  have Hin := Lib.hid hin
  clear hch hix hz hp hN cb cw ccell hs hin
  have b0 := (Below.refl (w.heap.size + 1) (w.alloc (.cells #[.string p, .int .i64 k, .int .i64 m, .string d, .string l] 33)))
  have B0 := Lib.hid b0
  obtain ⟨x0, x1, x2, x3, x4⟩ := Cc.out _ b0
  clear b0

  by_cases hk : ¬ (k = 1 ∨ k = 2 ∨ k = 3)
  · have k1 : (k != 1) = true := by simp; omega
    have k2 : (k != 2) = true := by simp; omega
    have k3 : (k != 3) = true := by simp; omega
    have hN : N = 14 := by rw [Hin.out]; rw [if_pos hk]
    subst hN
    clear Hin
    go_enter Tryz.func20, Tryz.ntmps20
    go_wp2
    go_ret
    exact ⟨rfl, Cw.out _ B0.out⟩
  have hk : k = 1 ∨ k = 2 ∨ k = 3 := by omega
  by_cases hc0 : checkNo p.data.toList ≠ 0
  · have hN : N = checkNo p.data.toList := by rw [Hin.out, if_neg (by omega), if_pos hc0]
    subst hN
    clear Hin
    generalize checkNo p.data.toList = c at *
    have Hc0 := Lib.hid hc0
    clear hc0
    rcases hk with rfl | rfl | rfl
    · go_enter Tryz.func20, Tryz.ntmps20
      go_wp2_with (go_at_call 37; refine (Hch.out _).mono ?_; rintro e w1 ⟨rfl, hb⟩
                   have hb2 : Below (w.heap.size + 1) (w.alloc (.cells #[.string p, .int .i64 1, .int .i64 m, .string d, .string l] 33)) w1 := (hb.mono (by simp))
                   have B1 := Lib.hid (Cw.out _ hb2)
                   obtain ⟨y0, y1, y2, y3, y4⟩ := Cc.out _ hb2
                   clear hb hb2
                   rw [errV_pos Hc0.out])
      go_ret
      exact ⟨by rw [errV_pos Hc0.out]; rfl, B1.out⟩
    · go_enter Tryz.func20, Tryz.ntmps20
      go_wp2_with (go_at_call 37; refine (Hch.out _).mono ?_; rintro e w1 ⟨rfl, hb⟩
                   have hb2 : Below (w.heap.size + 1) (w.alloc (.cells #[.string p, .int .i64 2, .int .i64 m, .string d, .string l] 33)) w1 := (hb.mono (by simp))
                   have B1 := Lib.hid (Cw.out _ hb2)
                   obtain ⟨y0, y1, y2, y3, y4⟩ := Cc.out _ hb2
                   clear hb hb2
                   rw [errV_pos Hc0.out])
      go_ret
      exact ⟨by rw [errV_pos Hc0.out]; rfl, B1.out⟩
    · go_enter Tryz.func20, Tryz.ntmps20
      go_wp2_with (go_at_call 37; refine (Hch.out _).mono ?_; rintro e w1 ⟨rfl, hb⟩
                   have hb2 : Below (w.heap.size + 1) (w.alloc (.cells #[.string p, .int .i64 3, .int .i64 m, .string d, .string l] 33)) w1 := (hb.mono (by simp))
                   have B1 := Lib.hid (Cw.out _ hb2)
                   obtain ⟨y0, y1, y2, y3, y4⟩ := Cc.out _ hb2
                   clear hb hb2
                   rw [errV_pos Hc0.out])
      go_ret
      exact ⟨by rw [errV_pos Hc0.out]; rfl, B1.out⟩
  have hc1 : checkNo p.data.toList = 0 := Decidable.not_not.1 hc0
  rw [hc1] at Hin Hch
  have hin2 := Hin.out
  rw [if_neg (by omega), if_neg (by omega)] at hin2
  clear Hin hc0 hc1
  rcases hk with rfl | rfl | rfl
  · by_cases m0 : m < 0
    · have hN : N = 16 := by rw [hin2]; rw [if_pos (by omega)]
      subst hN
      clear hin2
      go_enter Tryz.func20, Tryz.ntmps20
      go_wp2_with (go_at_call 37; refine (Hch.out _).mono ?_; rintro e w1 ⟨rfl, hb⟩
                   have hb2 : Below (w.heap.size + 1) (w.alloc (.cells #[.string p, .int .i64 1, .int .i64 m, .string d, .string l] 33)) w1 := (hb.mono (by simp))
                   have B1 := Lib.hid (Cw.out _ hb2)
                   obtain ⟨y0, y1, y2, y3, y4⟩ := Cc.out _ hb2
                   clear hb hb2
                   rw [show errV 0 = .nilIface from rfl])
      go_quiet (fail)
      go_wp2_with (go_at_call 38; refine (Hix.out _).mono ?_; rintro e w2 ⟨rfl, h2⟩; subst h2)
      go_ret
      exact ⟨rfl, below_drewN B1.out _⟩
    by_cases m1 : 4095 < m
    · have hN : N = 16 := by rw [hin2]; rw [if_pos (by omega)]
      subst hN
      clear hin2
      go_enter Tryz.func20, Tryz.ntmps20
      go_wp2_with (go_at_call 37; refine (Hch.out _).mono ?_; rintro e w1 ⟨rfl, hb⟩
                   have hb2 : Below (w.heap.size + 1) (w.alloc (.cells #[.string p, .int .i64 1, .int .i64 m, .string d, .string l] 33)) w1 := (hb.mono (by simp))
                   have B1 := Lib.hid (Cw.out _ hb2)
                   obtain ⟨y0, y1, y2, y3, y4⟩ := Cc.out _ hb2
                   clear hb hb2
                   rw [show errV 0 = .nilIface from rfl])
      go_quiet (fail)
      go_wp2_with (go_at_call 38; refine (Hix.out _).mono ?_; rintro e w2 ⟨rfl, h2⟩; subst h2)
      go_ret
      exact ⟨rfl, below_drewN B1.out _⟩
    rw [if_neg (by omega), if_neg (by omega)] at hin2
    rw [if_neg (fun h => by omega)] at hin2
    by_cases d0 : d.data.toList = []
    · have f0 := emptyB_t d0
      by_cases l0 : l.data.toList = []
      · have e0 := emptyB_t l0
        have hN : N = 0 := by rw [hin2]; rw [if_neg (fun h => h.elim (fun h => h.2 d0) (fun h => h.2 l0))]
        subst hN
        clear hin2
        go_enter Tryz.func20, Tryz.ntmps20
        go_wp2_with (go_at_call 37; refine (Hch.out _).mono ?_; rintro e w1 ⟨rfl, hb⟩
                     have hb2 : Below (w.heap.size + 1) (w.alloc (.cells #[.string p, .int .i64 1, .int .i64 m, .string d, .string l] 33)) w1 := (hb.mono (by simp))
                     have B1 := Lib.hid (Cw.out _ hb2)
                     obtain ⟨y0, y1, y2, y3, y4⟩ := Cc.out _ hb2
                     clear hb hb2
                     rw [show errV 0 = .nilIface from rfl])
        go_quiet (fail)
        go_wp2_with (go_at_call 38; refine (Hix.out _).mono ?_; rintro e w2 ⟨rfl, h2⟩; subst h2)
        go_ret
        exact ⟨rfl, below_drewN B1.out _⟩
      have e0 := emptyB_f l0
      have hN : N = 4 := by rw [hin2]; rw [if_pos (.inr ⟨by decide, l0⟩)]
      subst hN
      clear hin2
      go_enter Tryz.func20, Tryz.ntmps20
      go_wp2_with (go_at_call 37; refine (Hch.out _).mono ?_; rintro e w1 ⟨rfl, hb⟩
                   have hb2 : Below (w.heap.size + 1) (w.alloc (.cells #[.string p, .int .i64 1, .int .i64 m, .string d, .string l] 33)) w1 := (hb.mono (by simp))
                   have B1 := Lib.hid (Cw.out _ hb2)
                   obtain ⟨y0, y1, y2, y3, y4⟩ := Cc.out _ hb2
                   clear hb hb2
                   rw [show errV 0 = .nilIface from rfl])
      go_quiet (fail)
      go_wp2_with (go_at_call 38; refine (Hix.out _).mono ?_; rintro e w2 ⟨rfl, h2⟩; subst h2)
      go_ret
      exact ⟨rfl, below_drewN B1.out _⟩
    have f0 := emptyB_f d0
    have hN : N = 4 := by rw [hin2]; rw [if_pos (.inl ⟨by decide, d0⟩)]
    subst hN
    clear hin2
    go_enter Tryz.func20, Tryz.ntmps20
    go_wp2_with (go_at_call 37; refine (Hch.out _).mono ?_; rintro e w1 ⟨rfl, hb⟩
                 have hb2 : Below (w.heap.size + 1) (w.alloc (.cells #[.string p, .int .i64 1, .int .i64 m, .string d, .string l] 33)) w1 := (hb.mono (by simp))
                 have B1 := Lib.hid (Cw.out _ hb2)
                 obtain ⟨y0, y1, y2, y3, y4⟩ := Cc.out _ hb2
                 clear hb hb2
                 rw [show errV 0 = .nilIface from rfl])
    go_quiet (fail)
    go_wp2_with (go_at_call 38; refine (Hix.out _).mono ?_; rintro e w2 ⟨rfl, h2⟩; subst h2)
    go_ret
    exact ⟨rfl, below_drewN B1.out _⟩
  · by_cases m0 : m < 0
    · have hN : N = 16 := by rw [hin2]; rw [if_pos (by omega)]
      subst hN
      clear hin2
      go_enter Tryz.func20, Tryz.ntmps20
      go_wp2_with (go_at_call 37; refine (Hch.out _).mono ?_; rintro e w1 ⟨rfl, hb⟩
                   have hb2 : Below (w.heap.size + 1) (w.alloc (.cells #[.string p, .int .i64 2, .int .i64 m, .string d, .string l] 33)) w1 := (hb.mono (by simp))
                   have B1 := Lib.hid (Cw.out _ hb2)
                   obtain ⟨y0, y1, y2, y3, y4⟩ := Cc.out _ hb2
                   clear hb hb2
                   rw [show errV 0 = .nilIface from rfl])
      go_quiet (fail)
      go_wp2_with (go_at_call 38; refine (Hix.out _).mono ?_; rintro e w2 ⟨rfl, h2⟩; subst h2)
      go_ret
      exact ⟨rfl, below_drewN B1.out _⟩
    by_cases m1 : 4095 < m
    · have hN : N = 16 := by rw [hin2]; rw [if_pos (by omega)]
      subst hN
      clear hin2
      go_enter Tryz.func20, Tryz.ntmps20
      go_wp2_with (go_at_call 37; refine (Hch.out _).mono ?_; rintro e w1 ⟨rfl, hb⟩
                   have hb2 : Below (w.heap.size + 1) (w.alloc (.cells #[.string p, .int .i64 2, .int .i64 m, .string d, .string l] 33)) w1 := (hb.mono (by simp))
                   have B1 := Lib.hid (Cw.out _ hb2)
                   obtain ⟨y0, y1, y2, y3, y4⟩ := Cc.out _ hb2
                   clear hb hb2
                   rw [show errV 0 = .nilIface from rfl])
      go_quiet (fail)
      go_wp2_with (go_at_call 38; refine (Hix.out _).mono ?_; rintro e w2 ⟨rfl, h2⟩; subst h2)
      go_ret
      exact ⟨rfl, below_drewN B1.out _⟩
    rw [if_neg (by omega), if_neg (by omega)] at hin2
    by_cases d1 : 1048576 < (d.size : Int)
    · have hN : N = 5 := by rw [hin2]; rw [if_pos ⟨rfl, by omega⟩]
      subst hN
      clear hin2
      go_enter Tryz.func20, Tryz.ntmps20
      go_wp2_with (go_at_call 37; refine (Hch.out _).mono ?_; rintro e w1 ⟨rfl, hb⟩
                   have hb2 : Below (w.heap.size + 1) (w.alloc (.cells #[.string p, .int .i64 2, .int .i64 m, .string d, .string l] 33)) w1 := (hb.mono (by simp))
                   have B1 := Lib.hid (Cw.out _ hb2)
                   obtain ⟨y0, y1, y2, y3, y4⟩ := Cc.out _ hb2
                   clear hb hb2
                   rw [show errV 0 = .nilIface from rfl])
      go_quiet (fail)
      go_wp2_with (go_at_call 38; refine (Hix.out _).mono ?_; rintro e w2 ⟨rfl, h2⟩; subst h2)
      go_ret
      exact ⟨rfl, below_drewN B1.out _⟩
    rw [if_neg (fun h => by omega)] at hin2
    by_cases l0 : l.data.toList = []
    · have e0 := emptyB_t l0
      have hN : N = 0 := by rw [hin2]; rw [if_neg (fun h => h.elim (fun h => h.1 rfl) (fun h => h.2 l0))]
      subst hN
      clear hin2
      go_enter Tryz.func20, Tryz.ntmps20
      go_wp2_with (go_at_call 37; refine (Hch.out _).mono ?_; rintro e w1 ⟨rfl, hb⟩
                   have hb2 : Below (w.heap.size + 1) (w.alloc (.cells #[.string p, .int .i64 2, .int .i64 m, .string d, .string l] 33)) w1 := (hb.mono (by simp))
                   have B1 := Lib.hid (Cw.out _ hb2)
                   obtain ⟨y0, y1, y2, y3, y4⟩ := Cc.out _ hb2
                   clear hb hb2
                   rw [show errV 0 = .nilIface from rfl])
      go_quiet (fail)
      go_wp2_with (go_at_call 38; refine (Hix.out _).mono ?_; rintro e w2 ⟨rfl, h2⟩; subst h2)
      go_ret
      exact ⟨rfl, below_drewN B1.out _⟩
    have e0 := emptyB_f l0
    have hN : N = 4 := by rw [hin2]; rw [if_pos (.inr ⟨by decide, l0⟩)]
    subst hN
    clear hin2
    go_enter Tryz.func20, Tryz.ntmps20
    go_wp2_with (go_at_call 37; refine (Hch.out _).mono ?_; rintro e w1 ⟨rfl, hb⟩
                 have hb2 : Below (w.heap.size + 1) (w.alloc (.cells #[.string p, .int .i64 2, .int .i64 m, .string d, .string l] 33)) w1 := (hb.mono (by simp))
                 have B1 := Lib.hid (Cw.out _ hb2)
                 obtain ⟨y0, y1, y2, y3, y4⟩ := Cc.out _ hb2
                 clear hb hb2
                 rw [show errV 0 = .nilIface from rfl])
    go_quiet (fail)
    go_wp2_with (go_at_call 38; refine (Hix.out _).mono ?_; rintro e w2 ⟨rfl, h2⟩; subst h2)
    go_ret
    exact ⟨rfl, below_drewN B1.out _⟩
  · by_cases m0 : m < 0
    · have hN : N = 16 := by rw [hin2]; rw [if_pos (by omega)]
      subst hN
      clear hin2
      go_enter Tryz.func20, Tryz.ntmps20
      go_wp2_with (go_at_call 37; refine (Hch.out _).mono ?_; rintro e w1 ⟨rfl, hb⟩
                   have hb2 : Below (w.heap.size + 1) (w.alloc (.cells #[.string p, .int .i64 3, .int .i64 m, .string d, .string l] 33)) w1 := (hb.mono (by simp))
                   have B1 := Lib.hid (Cw.out _ hb2)
                   obtain ⟨y0, y1, y2, y3, y4⟩ := Cc.out _ hb2
                   clear hb hb2
                   rw [show errV 0 = .nilIface from rfl])
      go_quiet (fail)
      go_wp2_with (go_at_call 38; refine (Hix.out _).mono ?_; rintro e w2 ⟨rfl, h2⟩; subst h2)
      go_ret
      exact ⟨rfl, below_drewN B1.out _⟩
    by_cases m1 : 4095 < m
    · have hN : N = 16 := by rw [hin2]; rw [if_pos (by omega)]
      subst hN
      clear hin2
      go_enter Tryz.func20, Tryz.ntmps20
      go_wp2_with (go_at_call 37; refine (Hch.out _).mono ?_; rintro e w1 ⟨rfl, hb⟩
                   have hb2 : Below (w.heap.size + 1) (w.alloc (.cells #[.string p, .int .i64 3, .int .i64 m, .string d, .string l] 33)) w1 := (hb.mono (by simp))
                   have B1 := Lib.hid (Cw.out _ hb2)
                   obtain ⟨y0, y1, y2, y3, y4⟩ := Cc.out _ hb2
                   clear hb hb2
                   rw [show errV 0 = .nilIface from rfl])
      go_quiet (fail)
      go_wp2_with (go_at_call 38; refine (Hix.out _).mono ?_; rintro e w2 ⟨rfl, h2⟩; subst h2)
      go_ret
      exact ⟨rfl, below_drewN B1.out _⟩
    by_cases m5 : (m != 511) = true
    · have hN : N = 16 := by rw [hin2]; rw [if_pos (by simp at m5; omega)]
      subst hN
      clear hin2
      go_enter Tryz.func20, Tryz.ntmps20
      go_wp2_with (go_at_call 37; refine (Hch.out _).mono ?_; rintro e w1 ⟨rfl, hb⟩
                   have hb2 : Below (w.heap.size + 1) (w.alloc (.cells #[.string p, .int .i64 3, .int .i64 m, .string d, .string l] 33)) w1 := (hb.mono (by simp))
                   have B1 := Lib.hid (Cw.out _ hb2)
                   obtain ⟨y0, y1, y2, y3, y4⟩ := Cc.out _ hb2
                   clear hb hb2
                   rw [show errV 0 = .nilIface from rfl])
      go_quiet (fail)
      go_wp2_with (go_at_call 38; refine (Hix.out _).mono ?_; rintro e w2 ⟨rfl, h2⟩; subst h2)
      go_ret
      exact ⟨rfl, below_drewN B1.out _⟩
    rw [Bool.not_eq_true] at m5
    rw [if_neg (by simp at m5; omega)] at hin2
    by_cases l0 : l.data.toList = []
    · have e0 := emptyB_t l0
      have hN : N = 17 := by rw [hin2]; rw [if_pos ⟨rfl, .inl l0⟩]
      subst hN
      clear hin2
      go_enter Tryz.func20, Tryz.ntmps20
      go_wp2_with (go_at_call 37; refine (Hch.out _).mono ?_; rintro e w1 ⟨rfl, hb⟩
                   have hb2 : Below (w.heap.size + 1) (w.alloc (.cells #[.string p, .int .i64 3, .int .i64 m, .string d, .string l] 33)) w1 := (hb.mono (by simp))
                   have B1 := Lib.hid (Cw.out _ hb2)
                   obtain ⟨y0, y1, y2, y3, y4⟩ := Cc.out _ hb2
                   clear hb hb2
                   rw [show errV 0 = .nilIface from rfl])
      go_quiet (fail)
      go_wp2_with (go_at_call 38; refine (Hix.out _).mono ?_; rintro e w2 ⟨rfl, h2⟩; subst h2)
      go_ret
      exact ⟨rfl, below_drewN B1.out _⟩
    have e0 := emptyB_f l0
    by_cases l1 : 100 < (l.size : Int)
    · have hN : N = 17 := by rw [hin2]; rw [if_pos ⟨rfl, .inr (.inl (by omega))⟩]
      subst hN
      clear hin2
      go_enter Tryz.func20, Tryz.ntmps20
      go_wp2_with (go_at_call 37; refine (Hch.out _).mono ?_; rintro e w1 ⟨rfl, hb⟩
                   have hb2 : Below (w.heap.size + 1) (w.alloc (.cells #[.string p, .int .i64 3, .int .i64 m, .string d, .string l] 33)) w1 := (hb.mono (by simp))
                   have B1 := Lib.hid (Cw.out _ hb2)
                   obtain ⟨y0, y1, y2, y3, y4⟩ := Cc.out _ hb2
                   clear hb hb2
                   rw [show errV 0 = .nilIface from rfl])
      go_quiet (fail)
      go_wp2_with (go_at_call 38; refine (Hix.out _).mono ?_; rintro e w2 ⟨rfl, h2⟩; subst h2)
      go_ret
      exact ⟨rfl, below_drewN B1.out _⟩
    by_cases l2 : 0 ≤ z
    · have hN : N = 17 := by rw [hin2]; rw [if_pos ⟨rfl, .inr (.inr l2)⟩]
      subst hN
      clear hin2
      go_enter Tryz.func20, Tryz.ntmps20
      go_wp2_with (go_at_call 37; refine (Hch.out _).mono ?_; rintro e w1 ⟨rfl, hb⟩
                   have hb2 : Below (w.heap.size + 1) (w.alloc (.cells #[.string p, .int .i64 3, .int .i64 m, .string d, .string l] 33)) w1 := (hb.mono (by simp))
                   have B1 := Lib.hid (Cw.out _ hb2)
                   obtain ⟨y0, y1, y2, y3, y4⟩ := Cc.out _ hb2
                   clear hb hb2
                   rw [show errV 0 = .nilIface from rfl])
      go_quiet (fail)
      go_wp2_with (go_at_call 38; refine (Hix.out _).mono ?_; rintro e w2 ⟨rfl, h2⟩; subst h2)
      go_ret
      exact ⟨rfl, below_drewN B1.out _⟩
    rw [if_neg (fun h => h.2.elim l0 (fun h => h.elim (fun h => by omega) l2)), if_neg (by omega)] at hin2
    by_cases d0 : d.data.toList = []
    · have f0 := emptyB_t d0
      have hN : N = 0 := by rw [hin2]; rw [if_neg (fun h => h.elim (fun h => h.2 d0) (fun h => h.1 rfl))]
      subst hN
      clear hin2
      go_enter Tryz.func20, Tryz.ntmps20
      go_wp2_with (go_at_call 37; refine (Hch.out _).mono ?_; rintro e w1 ⟨rfl, hb⟩
                   have hb2 : Below (w.heap.size + 1) (w.alloc (.cells #[.string p, .int .i64 3, .int .i64 m, .string d, .string l] 33)) w1 := (hb.mono (by simp))
                   have B1 := Lib.hid (Cw.out _ hb2)
                   obtain ⟨y0, y1, y2, y3, y4⟩ := Cc.out _ hb2
                   clear hb hb2
                   rw [show errV 0 = .nilIface from rfl])
      go_quiet (fail)
      go_wp2_with (go_at_call 38; refine (Hix.out _).mono ?_; rintro e w2 ⟨rfl, h2⟩; subst h2)
      go_ret
      exact ⟨rfl, below_drewN B1.out _⟩
    have f0 := emptyB_f d0
    have hN : N = 4 := by rw [hin2]; rw [if_pos (.inl ⟨by decide, d0⟩)]
    subst hN
    clear hin2
    go_enter Tryz.func20, Tryz.ntmps20
    go_wp2_with (go_at_call 37; refine (Hch.out _).mono ?_; rintro e w1 ⟨rfl, hb⟩
                 have hb2 : Below (w.heap.size + 1) (w.alloc (.cells #[.string p, .int .i64 3, .int .i64 m, .string d, .string l] 33)) w1 := (hb.mono (by simp))
                 have B1 := Lib.hid (Cw.out _ hb2)
                 obtain ⟨y0, y1, y2, y3, y4⟩ := Cc.out _ hb2
                 clear hb hb2
                 rw [show errV 0 = .nilIface from rfl])
    go_quiet (fail)
    go_wp2_with (go_at_call 38; refine (Hix.out _).mono ?_; rintro e w2 ⟨rfl, h2⟩; subst h2)
    go_ret
    exact ⟨rfl, below_drewN B1.out _⟩
end Go.Proofs.YtfanfkogogijpaaGreatDoor
