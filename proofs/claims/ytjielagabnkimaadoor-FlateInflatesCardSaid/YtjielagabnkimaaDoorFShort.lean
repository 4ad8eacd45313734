/- flate.short: the short form, as bytes. -/
import Derived.Test.YtjielagabnkimaaDoorFShortA
set_option linter.unusedSimpArgs false
set_option linter.unusedVariables false
namespace Go.Proofs.YtjielagabnkimaaDoor
open Go.RowKit Go.Maps

set_option maxRecDepth 100000 in
set_option maxHeartbeats 8000000 in
theorem short_any (s : ByteArray) (w : World) (hs : s.size < 2 ^ 30) (hT : Tabs w) :
    Calls Tryd.prog 22 #[.string s] w fun e w' => ∃ v, e = .returned v ∧ BytesAt w' w.heap.size v (shortP s.data.toList) ∧ Below w.heap.size w w' := by
  have hmf : ∀ (fn : Fn) (first cap : Array Value) (w : World), (Instr.makeFunc fn first cap).run Tryd.prog w = .ok (.func fn first cap) w := fun _ _ _ _ => rfl
  have hmm := @run_makeMap Tryd.prog
  have hmk := run_make_row' (P := Tryd.prog) 52 3 (.int .i64 0) 8 Tryd.underlying52 Tryd.info_int rfl .i64 .i64 s.size (by omega) (by omega)
  obtain ⟨W5, hW5⟩ : ∃ W, W = (((((w.alloc (Obj.cells #[Value.string s] 9)).alloc (Obj.cells #[Value.slice none 0 0] 39)).alloc (Obj.cells #[Value.int IntKind.u64 0] 86)).alloc (Obj.cells #[Value.int IntKind.i64 0] 3)).alloc
      (Obj.cells #[putV (w.heap.size + 1 + 1) (w.heap.size + 1 + 1 + 1) (w.heap.size + 1)] 87)) := ⟨_, rfl⟩
  have hsz5 : W5.heap.size = w.heap.size + 1 + 1 + 1 + 1 + 1 := by rw [hW5]; simp
  have hbs : Boxed W5 w.heap.size 9 (.string s) := by rw [hW5]; exact ((((Boxed.new w _ _).alloc _).alloc _).alloc _).alloc _
  have hbp : Boxed W5 (w.heap.size + 1 + 1 + 1 + 1) 87 (putV (w.heap.size + 1 + 1) (w.heap.size + 1 + 1 + 1) (w.heap.size + 1)) := by
    rw [hW5]
    have h := Boxed.new ((((w.alloc (Obj.cells #[Value.string s] 9)).alloc (Obj.cells #[Value.slice none 0 0] 39)).alloc (Obj.cells #[Value.int IntKind.u64 0] 86)).alloc (Obj.cells #[Value.int IntKind.i64 0] 3)) 87 (putV (w.heap.size + 1 + 1) (w.heap.size + 1 + 1 + 1) (w.heap.size + 1))
    simp only [World.size_alloc] at h
    exact h
  have hw0 : Wrote W5 (w.heap.size + 1 + 1) (w.heap.size + 1 + 1 + 1) (w.heap.size + 1) w.heap.size [] := by
    refine ⟨[], 0, 0, ⟨?_, ?_, ⟨.slice none 0 0, ?_, World.ownsRow_nil _ _ _ _⟩, by decide⟩, by decide, rfl⟩
    · rw [hW5]
      have h := ((Boxed.new ((w.alloc (Obj.cells #[Value.string s] 9)).alloc (Obj.cells #[Value.slice none 0 0] 39)) 86 (Value.int IntKind.u64 0)).alloc (Obj.cells #[Value.int IntKind.i64 0] 3)).alloc (Obj.cells #[putV (w.heap.size + 1 + 1) (w.heap.size + 1 + 1 + 1) (w.heap.size + 1)] 87)
      simp only [World.size_alloc] at h
      exact h
    · rw [hW5]
      have h := (Boxed.new (((w.alloc (Obj.cells #[Value.string s] 9)).alloc (Obj.cells #[Value.slice none 0 0] 39)).alloc (Obj.cells #[Value.int IntKind.u64 0] 86)) 3 (Value.int IntKind.i64 0)).alloc (Obj.cells #[putV (w.heap.size + 1 + 1) (w.heap.size + 1 + 1 + 1) (w.heap.size + 1)] 87)
      simp only [World.size_alloc] at h
      exact h
    · rw [hW5]
      have h := (((Boxed.new (w.alloc (Obj.cells #[Value.string s] 9)) 39 (Value.slice none 0 0)).alloc (Obj.cells #[Value.int IntKind.u64 0] 86)).alloc (Obj.cells #[Value.int IntKind.i64 0] 3)).alloc (Obj.cells #[putV (w.heap.size + 1 + 1) (w.heap.size + 1 + 1 + 1) (w.heap.size + 1)] 87)
      simp only [World.size_alloc] at h
      exact h
  have hb5 : Below w.heap.size w W5 := by rw [hW5]; exact (((((Below.refl _ _).alloc (by simp; try omega) _).alloc (by simp; try omega) _).alloc (by simp; try omega) _).alloc (by simp; try omega) _).alloc (by simp; try omega) _
  have hput := put_any 3 3 (w.heap.size + 1 + 1) (w.heap.size + 1 + 1 + 1) (w.heap.size + 1) w.heap.size [] W5 (by omega) (by omega) (by omega) (by omega) hw0 (by decide) (by decide) (by simp)
  rw [hW5] at hput
  unfold putV at hput
  have Hput := Lib.hid hput
  have HW5 := Lib.hid hW5
  have Hbs := Lib.hid hbs
  have Hbp := Lib.hid hbp
  have Hb5 := Lib.hid hb5
  have Hsz5 := Lib.hid hsz5
  clear hput hW5 hbs hbp hb5 hsz5 hw0
  obtain ⟨tot, htot0⟩ : ∃ t, t = shortBits s.data.toList := ⟨_, rfl⟩
  have Htot0 := Lib.hid htot0
  have HT := Lib.hid hT
  clear htot0 hT
  go_enter Tryd.func22, Tryd.ntmps22
  go_wp2_with (go_at_call 47; refine (Hput.out).mono ?_; rintro e w1 ⟨rfl, hW1, hk1⟩
               rw [show (((((w.alloc (Obj.cells #[Value.string s] 9)).alloc (Obj.cells #[Value.slice none 0 0] 39)).alloc (Obj.cells #[Value.int IntKind.u64 0] 86)).alloc (Obj.cells #[Value.int IntKind.i64 0] 3)).alloc
      (Obj.cells #[Value.func (.func 47) #[] #[.pointer (some ⟨w.heap.size + 1 + 1, 0, none⟩), .pointer (some ⟨w.heap.size + 1 + 1 + 1, 0, none⟩), .pointer (some ⟨w.heap.size + 1, 0, none⟩)]] 87)) = W5 from HW5.out.symm] at hk1
               have hs1 : Boxed w1 w.heap.size 9 (.string s) := hk1.boxed Hbs.out ⟨by omega, by omega, by omega, .inr (notRow_box (by decide))⟩
               have hp1 := hk1.boxed Hbp.out ⟨by omega, by omega, by omega, .inr (notRow_box (by decide))⟩
               have hz1 : w.heap.size + 5 ≤ w1.heap.size := by have := hk1.size; rw [Hsz5.out] at this; omega
               have hb1 : Below w.heap.size w w1 := Hb5.out.trans (hk1.below (by rw [Hsz5.out]; omega) (fun k o hk => ⟨by omega, by omega, by omega, .inl hk⟩))
               have cs1 := hs1.cell
               have ls1 := hs1.lt
               have HW1 := Lib.hid hW1
               have Hs1 := Lib.hid hs1
               have Hp1 := Lib.hid hp1
               have Hb1 := Lib.hid hb1
               clear hW1 hs1 hp1 hb1 hk1)
  have hst0 : ShortAt w ((((w1.alloc (Obj.map #[] 0)).alloc (Obj.cells #[Value.map (some w1.heap.size)] 89)).alloc (Obj.cells (madeCells #[Value.int IntKind.i64 0] s.size) 3)).alloc
      (Obj.cells #[Value.slice (some ⟨w1.heap.size + 1 + 1, 0, none⟩) s.size s.size] 52)) s w.heap.size (w.heap.size + 1) (w.heap.size + 1 + 1) (w.heap.size + 1 + 1 + 1) (w.heap.size + 1 + 1 + 1 + 1) w1.heap.size (w1.heap.size + 1) (w1.heap.size + 1 + 1) (w1.heap.size + 1 + 1 + 1) 0 [true, true, false] := by
    refine ⟨?_, ⟨(((Hs1.out.alloc _).alloc _).alloc _).alloc _, ?_, ?_, ⟨.map [], 0, ?_, Nat.le_refl _, fun k => rfl⟩, ⟨madeCells #[Value.int IntKind.i64 0] s.size, ?_, size_madeCells _ _, fun j hj => by omega⟩⟩, (((Hp1.out.alloc _).alloc _).alloc _).alloc _, (((Hb1.out.alloc (by omega) _).alloc (by simp only [World.size_alloc]; omega) _).alloc (by simp only [World.size_alloc]; omega) _).alloc (by simp only [World.size_alloc]; omega) _⟩
    · obtain ⟨out, hold, hv, hp, h8, e⟩ := HW1.out
      obtain ⟨ov, ho, hrow⟩ := hp.o
      exact ⟨out, hold, hv, ⟨(((hp.h.alloc _).alloc _).alloc _).alloc _, (((hp.v.alloc _).alloc _).alloc _).alloc _, ⟨ov, (((ho.alloc _).alloc _).alloc _).alloc _, (((hrow.alloc _).alloc _).alloc _).alloc _⟩, hp.lt⟩, h8, e⟩
    · have h := ((Boxed.new (w1.alloc (Obj.map #[] 0)) 89 (Value.map (some w1.heap.size))).alloc (Obj.cells (madeCells #[Value.int IntKind.i64 0] s.size) 3)).alloc (Obj.cells #[Value.slice (some ⟨w1.heap.size + 1 + 1, 0, none⟩) s.size s.size] 52)
      simp only [World.size_alloc] at h
      exact h
    · have h := Boxed.new (((w1.alloc (Obj.map #[] 0)).alloc (Obj.cells #[Value.map (some w1.heap.size)] 89)).alloc (Obj.cells (madeCells #[Value.int IntKind.i64 0] s.size) 3)) 52 (Value.slice (some ⟨w1.heap.size + 1 + 1, 0, none⟩) s.size s.size)
      simp only [World.size_alloc] at h
      exact h
    · exact (((World.ownsMap_made w1 _ _ _).alloc _).alloc _).alloc _
    · have h := World.alloc_heap_new ((w1.alloc (Obj.map #[] 0)).alloc (Obj.cells #[Value.map (some w1.heap.size)] 89)) (Obj.cells (madeCells #[Value.int IntKind.i64 0] s.size) 3)
      simp only [World.size_alloc] at h
      rw [heap_alloc_old _ _ (by simp only [World.size_alloc]; omega)]
      exact h
  have hrm : Rooms w.heap.size (w.heap.size + 1) (w.heap.size + 1 + 1) (w.heap.size + 1 + 1 + 1) (w.heap.size + 1 + 1 + 1 + 1) w1.heap.size (w1.heap.size + 1) (w1.heap.size + 1 + 1) (w1.heap.size + 1 + 1 + 1) := ⟨rfl, rfl, rfl, rfl, hz1, rfl, rfl, rfl⟩
  have Hst0 := Lib.hid hst0
  have Hrm := Lib.hid hrm
  clear hst0 hrm Hs1 Hp1 Hb1 HW1 cs1 ls1 Hput HW5 Hbs Hbp Hb5 Hsz5
  generalize hN : w1.heap.size + 1 + 1 + 1 = Nb at *
  generalize hX : w1.heap.size + 1 + 1 = X at *
  generalize hF : w1.heap.size + 1 = Fb at *
  generalize hM : w1.heap.size = M at *
  generalize hP : w.heap.size + 1 + 1 + 1 + 1 = P at *
  generalize hV : w.heap.size + 1 + 1 + 1 = V at *
  generalize hH : w.heap.size + 1 + 1 = H at *
  generalize hO : w.heap.size + 1 = O at *
  generalize hB : w.heap.size = B at *
  generalize hw2 : ((((w1.alloc (Obj.map #[] 0)).alloc (Obj.cells #[Value.map (some M)] 89)).alloc (Obj.cells (madeCells #[Value.int IntKind.i64 0] s.size) 3)).alloc
      (Obj.cells #[Value.slice (some ⟨X, 0, none⟩) s.size s.size] 52)) = w2 at *
  have hlen : s.data.toList.length = s.size := rfl
  have HB := Lib.hid hB
  have hwB : 3 < B := by rw [← hB]; exact HT.out.2.2
  have Hlen := Lib.hid hlen
  clear hN hX hF hM hP hV hH hO hB hw2 hmf hmm hmk hz1 hlen
  have htotl : tot.length < 2 ^ 36 := by
    have h := shortBits_length s.data.toList
    rw [Htot0.out]
    have := Hlen.out
    omega
  go_loopw [11] (fun iv wr => ∃ (i f : Nat) (bits : List Bool), iv = .int .i64 (i : Int) ∧ i ≤ s.size ∧ s.size - i < f ∧ ShortAt w wr s B O H V P M Fb X Nb i bits ∧ bits ++ rest s.data.toList f i = tot) (fun iv _ => s.size - (intOf iv).toNat)
  case atStart => exact ⟨0, s.size + 1, _, rfl, by omega, by omega, Hst0.out, Htot0.out.symm⟩
  case round =>
    obtain ⟨i, f, bits, rfl, hi, hf, hst, htt⟩ := hrel
    obtain ⟨f, rfl⟩ : ∃ g, f = g + 1 := ⟨f - 1, by omega⟩
    have cS := hst.note.sb.cell
    have cF := hst.note.fb.cell
    have cN := hst.note.nb.cell
    have cP := hst.put.cell
    unfold putV at cP
    have hbl : bits.length < 2 ^ 40 := by
      have := congrArg List.length htt
      rw [List.length_append] at this
      omega
    rw [rest] at htt
    have Hst := Lib.hid hst
    have Htt := Lib.hid htt
    clear hst htt
    by_cases hlt : (i : Int) < (s.size : Int)
    · go_upto_if 36 with fail
      go_cut [12, 13] (fun nv fv wx => ∃ (N F : Nat), nv = .int .i64 (N : Int) ∧ fv = .int .i64 (F : Int) ∧ best s.data.toList i = (N, F) ∧ ShortAt w wx s B O H V P M Fb X Nb i bits)
      case first =>
        by_cases h3 : (i : Int) + 3 ≤ (s.size : Int)
        · have hthree := fun W => three_any s i W (by omega) (by omega)
          have Hthree := Lib.hid hthree
          clear hthree
          have hlook := Hst.out.note.look (by omega)
          go_wp2_with fail
          go_quiet ((go_at_call 51; exact Calls.quiet_of (Hthree.out _)))
          clear hlook
          have hst1 : ShortAt w (wr.drewN nq) s B O H V P M Fb X Nb i bits := Hst.out.same ⟨nq, rfl⟩
          generalize wr.drewN nq = wa at *
          have Hst1 := Lib.hid hst1
          clear hst1 cS cF cN cP
          go_wp2_with fail
          have hbest : best s.data.toList i = scan s.data.toList i 64 (chain s.data.toList (threeN s.data.toList i) i) (0, 0) := by unfold best; rw [if_pos (by have := Hlen.out; omega)]
          have Hbest := Lib.hid hbest
          clear hbest
          rw [decide_eq_true h3]
          go_loopw [12, 13, 14, 15] (fun nv fv av kv wb => ∃ (N F K j : Nat), nv = .int .i64 (N : Int) ∧ fv = .int .i64 (F : Int) ∧ av = .int .i64 ((firstOf s.data.toList (threeN s.data.toList i) j : Nat) : Int) ∧ kv = .int .i64 (K : Int) ∧ K ≤ 64 ∧ j ≤ i ∧ scan s.data.toList i (64 - K) (chain s.data.toList (threeN s.data.toList i) j) (N, F) = best s.data.toList i ∧ Same wa wb) (fun _ _ _ kv _ => 64 - (intOf kv).toNat)
          case atStart => exact ⟨0, 0, 0, i, rfl, rfl, rfl, rfl, by omega, Nat.le_refl _, Hbest.out.symm, Same.refl _⟩
          case round =>
            obtain ⟨N, F, K, j, rfl, rfl, rfl, rfl, hK, hj, hscan, hsm⟩ := hrel
            have hstb := Hst1.out.same hsm
            have Hstb := Lib.hid hstb
            have Hscan := Lib.hid hscan
            have Hsm := Lib.hid hsm
            clear hstb hscan hsm
            by_cases hK2 : (K : Int) < 64
            · rcases first_head s.data.toList (threeN s.data.toList i) j with ⟨h0, hch⟩ | ⟨a, h0, haj, hka, hch⟩
              · rw [show ((firstOf s.data.toList (threeN s.data.toList i) j : Nat) : Int) = 0 from by rw [h0]; rfl]
                have Hch := Lib.hid hch
                clear h0 hch
                go_wp2_with fail
                go_meet
                refine ⟨N, F, rfl, rfl, ?_, Hstb.out⟩
                rw [← Hscan.out, Hch.out]
                cases 64 - K <;> rfl
              · rw [show ((firstOf s.data.toList (threeN s.data.toList i) j : Nat) : Int) = (a : Int) + 1 from by rw [h0]; rfl]
                have hpos : 0 < (a : Int) + 1 := by omega
                obtain ⟨k, hk⟩ : ∃ k, 64 - K = k + 1 := ⟨63 - K, by omega⟩
                have hsc := Hscan.out
                rw [hk, hch, scan] at hsc
                have Hka := Lib.hid hka
                have Hk := Lib.hid hk
                clear h0 hch hk hka
                by_cases hw : (i : Int) - (a : Int) ≤ 32768
                · rw [if_pos (by omega)] at hsc
                  have Hsc := Lib.hid hsc
                  clear hsc
                  have hal := fun W => alike_any s a i W (by omega) (by omega) (by omega)
                  have Hal := Lib.hid hal
                  clear hal
                  have hsc2 := Hsc.out
                  by_cases hgt : N < alikeN s.data.toList a i
                  · rw [if_pos hgt] at hsc2
                    have Hsc2 := Lib.hid hsc2
                    clear hsc2
                    have cS2 := Hstb.out.note.sb.cell
                    go_wp2_with (go_at_call 52; refine (Hal.out _).mono ?_; rintro e w3 ⟨rfl, hs3⟩
                                 have hst3 := Hstb.out.same hs3
                                 have cN3 := hst3.note.nb.cell
                                 have cX3 := hst3.note.back a (by omega) (by omega)
                                 have zX3 : a < s.size := (by omega)
                                 have hsm3 : Same wa w3 := (by obtain ⟨n1, h1⟩ := Hsm.out; obtain ⟨n2, h2⟩ := hs3; exact ⟨n1 + n2, by rw [h2, h1, World.drewN_drewN]⟩)
                                 have Hst3 := Lib.hid hst3
                                 have Hsm3 := Lib.hid hsm3
                                 clear hst3 hsm3 hs3)
                    go_roundw
                    case rel => exact ⟨alikeN s.data.toList a i, a, K + 1, a, rfl, by go_num, by rw [Hka.out], by go_num, by omega, by omega, by rw [show 64 - (K + 1) = k by have := Hk.out; omega]; exact Hsc2.out, Hsm3.out⟩
                    case measure => simp [intOf]; omega
                  · rw [if_neg hgt] at hsc2
                    have Hsc2 := Lib.hid hsc2
                    clear hsc2
                    have cS2 := Hstb.out.note.sb.cell
                    go_wp2_with (go_at_call 52; refine (Hal.out _).mono ?_; rintro e w3 ⟨rfl, hs3⟩
                                 have hst3 := Hstb.out.same hs3
                                 have cN3 := hst3.note.nb.cell
                                 have cX3 := hst3.note.back a (by omega) (by omega)
                                 have zX3 : a < s.size := (by omega)
                                 have hsm3 : Same wa w3 := (by obtain ⟨n1, h1⟩ := Hsm.out; obtain ⟨n2, h2⟩ := hs3; exact ⟨n1 + n2, by rw [h2, h1, World.drewN_drewN]⟩)
                                 have Hst3 := Lib.hid hst3
                                 have Hsm3 := Lib.hid hsm3
                                 clear hst3 hsm3 hs3)
                    go_roundw
                    case rel => exact ⟨N, F, K + 1, a, rfl, rfl, by rw [Hka.out], by go_num, by omega, by omega, by rw [show 64 - (K + 1) = k by have := Hk.out; omega]; exact Hsc2.out, Hsm3.out⟩
                    case measure => simp [intOf]; omega
                · rw [if_neg (by omega)] at hsc
                  have Hsc := Lib.hid hsc
                  clear hsc
                  have hd : decide ((i : Int) - (a : Int) ≤ 32768) = false := by simpa using hw
                  go_wp2_with fail
                  go_meet
                  exact ⟨N, F, rfl, rfl, Hsc.out.symm, Hstb.out⟩
            · obtain rfl : K = 64 := by omega
              go_wp2_with fail
              go_meet
              refine ⟨N, F, rfl, rfl, ?_, Hstb.out⟩
              rw [← Hscan.out]
              simp [scan]
        · have hb : best s.data.toList i = (0, 0) := by unfold best; rw [if_neg (by have := Hlen.out; omega)]
          have Hb := Lib.hid hb
          clear hb
          go_wp2_with fail
          go_meet
          exact ⟨0, 0, rfl, rfl, Hb.out, Hst.out⟩
      case rest =>
        obtain ⟨N, F, rfl, rfl, hbest, hstc⟩ := hcut
        have cS2 := hstc.note.sb.cell
        have cP2 := hstc.put.cell
        unfold putV at cP2
        have hgood := best_good s.data.toList i
        rw [hbest] at hgood
        have htt := Htt.out
        rw [if_pos (by have := Hlen.out; omega), hbest] at htt
        have Hstc := Lib.hid hstc
        have Hgood := Lib.hid hgood
        clear hstc hgood cS cF cN cP hbest
        by_cases hN0 : N = 0
        · subst hN0
          rw [if_pos rfl] at htt
          have Htt2 := Lib.hid htt
          clear htt
          have hli : i < s.size := by omega
          have hs8 := (s[i]'hli).toNat_lt
          go_wp2_with (first
            | (go_at_call 48; refine (Hstc.out.sym Hrm.out hbl (s[i]'hli).toNat (by omega) _ (by first | rfl | (unfold wrap64; omega))).mono ?_; rintro e w3 ⟨rfl, hst3⟩
               have Hst3 := Lib.hid hst3
               clear hst3)
            | (go_at_call 50; refine (Hst3.out.notes Hrm.out hli (by omega) _ (by first | rfl | (unfold wrap64; omega))).mono ?_; rintro e w4 ⟨rfl, hst4⟩
               have Hst4 := Lib.hid hst4
               clear hst4))
          go_roundw
          case rel => exact ⟨i + 1, f, _, by go_num, by omega, by omega, Hst4.out, by rw [← Htt2.out, at8_eq hli, List.append_assoc]⟩
          case measure => simp [intOf]; omega
        · rw [if_neg hN0] at htt
          have Htt2 := Lib.hid htt
          clear htt
          have hNn : ((N : Int) == 0) = false := by simp; omega
          obtain ⟨hN3, hN258, hNs, hFi, hFw⟩ : 3 ≤ N ∧ N ≤ 258 ∧ i + N ≤ s.data.toList.length ∧ F < i ∧ i - F ≤ 32768 := by
            rcases Hgood.out with h | ⟨h1, h2, h3, h4, h5, _⟩
            · exact absurd (congrArg Prod.fst h) hN0
            · exact ⟨h1, h2, h3, h4, h5⟩
          rw [Hlen.out] at hNs
          obtain ⟨hk1, hk2, hk3⟩ := lenAt_ok N hN3 hN258
          obtain ⟨hd1, hd2, hd3⟩ := distAt_ok (i - F) (by omega) hFw
          obtain ⟨k, hk⟩ : ∃ k, k = lenAt N := ⟨_, rfl⟩
          obtain ⟨d, hd⟩ : ∃ d, d = distAt (i - F) := ⟨_, rfl⟩
          obtain ⟨kl, hkl⟩ : ∃ x, x = (lensT.getD k (0, 0)).1 := ⟨_, rfl⟩
          obtain ⟨ke, hke⟩ : ∃ x, x = (lensT.getD k (0, 0)).2 := ⟨_, rfl⟩
          obtain ⟨dl, hdl⟩ : ∃ x, x = (distT.getD d (0, 0)).1 := ⟨_, rfl⟩
          obtain ⟨de, hde⟩ : ∃ x, x = (distT.getD d (0, 0)).2 := ⟨_, rfl⟩
          have hke5 : ke ≤ 5 := by rw [hke]; exact lens_extra k
          have hde13 : de ≤ 13 := by rw [hde]; exact dist_extra d
          rw [← hk, ← hkl, ← hke] at hk3
          rw [← hk, ← hkl] at hk2
          rw [← hk] at hk1
          rw [← hd, ← hdl, ← hde] at hd3
          rw [← hd, ← hdl] at hd2
          rw [← hd] at hd1
          have hlb : lenBits N = litBits (257 + k) ++ low (N - kl) ke := by rw [lenBits, ← hk, ← hkl, ← hke]
          have hdb : distBits (i - F) = high d 5 ++ low (i - F - dl) de := by rw [distBits, ← hd, ← hdl, ← hde]
          have hb1 : (bits ++ litBits (257 + k)).length < 2 ^ 37 ∧ (bits ++ litBits (257 + k) ++ low (N - kl) ke).length < 2 ^ 38 ∧ (bits ++ litBits (257 + k) ++ low (N - kl) ke ++ high d 5).length < 2 ^ 39 := by
            have h1 := congrArg List.length Htt2.out
            have h2 := litBits_length (257 + k)
            rw [List.length_append] at h1
            simp only [List.length_append, low_length, high_length]
            omega
          have hlast := fun v hv => lens_last wc (HT.out.1.below Hstc.out.below (by show 0 < B; omega)) N hN3 hN258 v hv
          rw [← hk] at hlast
          have Hlast := Lib.hid hlast
          have Hk := Lib.hid hk
          have Hd := Lib.hid hd
          have Hkl := Lib.hid hkl
          have Hke := Lib.hid hke
          have Hdl := Lib.hid hdl
          have Hde := Lib.hid hde
          have Hlb := Lib.hid hlb
          have Hdb := Lib.hid hdb
          have Hb1 := Lib.hid hb1
          have Hk3 := Lib.hid hk3
          have Hd3 := Lib.hid hd3
          clear hlast hk hd hkl hke hdl hde hlb hdb hb1 hk3 hd3
          have htab : ∀ W, Below B w W → W.cell? ⟨0, k * 2, none⟩ = some (.int .i64 (kl : Int)) ∧ W.cell? ⟨0, k * 2 + 1, none⟩ = some (.int .i64 (ke : Int)) ∧ W.cell? ⟨1, d * 2, none⟩ = some (.int .i64 (dl : Int)) ∧ W.cell? ⟨1, d * 2 + 1, none⟩ = some (.int .i64 (de : Int)) := by
            intro W hW
            have h1 := (HT.out.1.below hW (by show 0 < B; omega)) k hk1
            have h2 := (HT.out.2.1.below hW (by show 1 < B; omega)) d hd1
            rw [← Hkl.out, ← Hke.out] at h1
            rw [← Hdl.out, ← Hde.out] at h2
            exact ⟨h1.1, h1.2, h2.1, h2.2⟩
          have Htab := Lib.hid htab
          clear htab
          go_wp2_with (first
            | (go_at_call 53; refine (Hlast.out _ (by first | rfl | (unfold wrap64; omega))).mono ?_; rintro e w3 ⟨rfl, rfl⟩)
            | (go_at_call 48; refine (Hstc.out.sym Hrm.out hbl (257 + k) (by omega) _ (by first | rfl | omega | (unfold wrap64; omega))).mono ?_; rintro e w4 ⟨rfl, hst4⟩
               have cP4 := hst4.put.cell
               unfold putV at cP4
               have ct4 := Htab.out _ hst4.below
               obtain ⟨ct41, ct42, _, _⟩ := ct4
               have Hst4 := Lib.hid hst4
               clear hst4))
          have hk1z : (k : Int) < 29 := by omega
          have hk0z : 0 ≤ (k : Int) := by omega
          have hd1z : (d : Int) < 30 := by omega
          have hd0z : 0 ≤ (d : Int) := by omega
          go_still_tail 11, (by kernel_rfl)
          change wpList _ _ _ _ _ w4.drew
          have hst5 := Hst4.out.drew
          generalize w4.drew = w5 at *
          have Hst5 := Lib.hid hst5
          clear hst5 cP4 ct41 ct42
          go_wp2_with (first
            | (go_at_call 47; refine (Hst5.out.puts Hrm.out (by have := Hb1.out; omega) (N - kl) ke (by omega) Hk3.out _ _ (by first | rfl | omega | (simp only [IntKind.wrap_i64]; omega)) rfl).mono ?_; rintro e w6 ⟨rfl, hst6⟩
               have cP6 := hst6.put.cell
               unfold putV at cP6
               have Hst6 := Lib.hid hst6
               clear hst6)
            | (go_at_call 53; refine (dist_last _ (HT.out.2.1.below Hst6.out.below (by show 1 < B; omega)) (i - F) (by omega) hFw _ (by first | rfl | omega | (simp only [IntKind.wrap_i64]; omega))).mono ?_; rintro e w7 ⟨rfl, rfl⟩))
          rw [← Hd.out]
          have hturn : Calls Tryd.prog 49 #[.int .i64 (d : Int), .int .i64 5] w6.drew fun e w' => e = .returned (.int .i64 ((turnN 0 d 5 : Nat) : Int)) ∧ w' = w6.drew := flop (turned_any d 5 w6.drew (by decide) (by omega))
          have Hturn := Lib.hid hturn
          clear hturn
          go_still_tail 3, (by kernel_rfl)
          still_call Hturn.out
          refine wpStill_nil ?_
          change wpList _ _ _ _ _ w6.drew
          have hst7 := Hst6.out.drew
          clear Hturn
          generalize w6.drew = w7 at *
          have Hst7 := Lib.hid hst7
          clear hst7 cP6
          go_wp2_with (go_at_call 47; refine (Hst7.out.puts Hrm.out (by have := Hb1.out; omega) (turnN 0 d 5) 5 (by decide) (low_turnN 5 d).1 _ _ rfl rfl).mono ?_; rintro e w8 ⟨rfl, hst8⟩
                       have cP8 := hst8.put.cell
                       unfold putV at cP8
                       rw [(low_turnN 5 d).2] at hst8
                       have ct8 := Htab.out _ hst8.below
                       obtain ⟨_, _, ct81, ct82⟩ := ct8
                       have Hst8 := Lib.hid hst8
                       clear hst8)
          go_still_tail 11, (by kernel_rfl)
          change wpList _ _ _ _ _ w8.drew
          have hst9 := Hst8.out.drew
          generalize w8.drew = w9 at *
          have Hst9 := Lib.hid hst9
          clear hst9 cP8 ct81 ct82
          go_wp2_with (go_at_call 47; refine (Hst9.out.puts Hrm.out (by have := Hb1.out; omega) (i - F - dl) de (by omega) Hd3.out _ _ (by first | rfl | omega | (simp only [IntKind.wrap_i64]; omega)) rfl).mono ?_; rintro e wd ⟨rfl, hstd⟩
                       have Hstd := Lib.hid hstd
                       clear hstd)
          generalize hbb : bits ++ litBits (257 + k) ++ low (N - kl) ke ++ high d 5 ++ low (i - F - dl) de = bb at *
          have Hbb := Lib.hid hbb
          clear hbb hk1z hk0z hd1z hd0z hk2 hd2
          go_loopw [11, 128] (fun iv cv wn => ∃ c : Nat, iv = .int .i64 ((i : Int) + (c : Int)) ∧ cv = .int .i64 (c : Int) ∧ c ≤ N ∧ ShortAt w wn s B O H V P M Fb X Nb (i + c) bb) (fun _ cv _ => N - (intOf cv).toNat)
          case atStart => exact ⟨0, by simp, rfl, by omega, Hstd.out⟩
          case round =>
            obtain ⟨c, rfl, rfl, hc, hstn⟩ := hrel
            have Hstn := Lib.hid hstn
            clear hstn
            by_cases hcN : (c : Int) < (N : Int)
            · go_wp2_with (go_at_call 50; refine (Hstn.out.notes Hrm.out (by omega) (by omega) _ (by omega)).mono ?_; rintro e we ⟨rfl, hste⟩
                           have Hste := Lib.hid hste
                           clear hste)
              go_roundw
              case rel => exact ⟨c + 1, by go_num, by go_num, by omega, Hste.out⟩
              case measure => simp [intOf]; omega
            · obtain rfl : c = N := by omega
              go_wp2_with fail
              go_roundw
              case rel => exact ⟨i + c, f, bb, by go_num, by omega, by omega, Hstn.out, by rw [← Htt2.out, ← Hbb.out, Hlb.out, Hdb.out]; simp only [List.append_assoc]⟩
              case measure => simp [intOf]; omega
    · have hie : i = s.size := by omega
      have htt := Htt.out
      rw [if_neg (by have := Hlen.out; omega)] at htt
      have Htt2 := Lib.hid htt
      clear htt
      have hb1 : (bits ++ litBits 256).length < 2 ^ 40 := by
        rw [Htt2.out]; omega
      have Hb1 := Lib.hid hb1
      clear hb1
      go_wp2_with (first
        | (go_at_call 48; refine (Hst.out.sym Hrm.out hbl 256 (by decide) _ rfl).mono ?_; rintro e w3 ⟨rfl, hst3⟩
           have cP3 := hst3.put.cell
           unfold putV at cP3
           have Hst3 := Lib.hid hst3
           clear hst3)
        | (go_at_call 47; refine (Hst3.out.puts Hrm.out Hb1.out 0 7 (by decide) (by decide) _ _ rfl rfl).mono ?_; rintro e w4 ⟨rfl, hst4⟩
           obtain ⟨out, hold, hv, hp, h8, he⟩ := hst4.wrote
           obtain ⟨ov, ho, hrow⟩ := hp.o
           have hol : out.length = (tot.length + 7) / 8 := (by
             have h1 := congrArg List.length he
             rw [List.length_append, bitsOf_length, low_length, List.length_append, low_length, Htt2.out] at h1
             omega)
           have hout : out = packed tot := packed_of tot (low hold hv) out 7 (by rw [he, Htt2.out]; rfl) hol
           have hpos : 0 < out.length := (by
             have h2 := congrArg List.length Htt2.out
             have h3 := litBits_length 256
             rw [List.length_append] at h2
             omega)
           obtain ⟨g, cap, cur, rfl, hbg, hg, hcap, hmax, hcs, htk⟩ : ∃ g cap cur, ov = .slice (some ⟨g, 0, none⟩) out.length cap ∧ B ≤ g ∧ w4.heap[g]? = some (.cells cur 5 (0, 0)) ∧ out.length ≤ cap ∧ cap ≤ maxLen ∧ cur.size = cap * 1 ∧ cur.toList.take (out.length * 1) = out.map encB := (by
             rcases hrow.2 with ⟨_, h0⟩ | h
             · omega
             · exact h)
           have cO4 := ho.cell
           have Hst4 := Lib.hid hst4
           have Hout := Lib.hid hout
           have Hg := Lib.hid hg
           have Hcs := Lib.hid hcs
           have Htk := Lib.hid htk
           have hclip := clip_any g out.length cap w4 hcap
           have Hclip := Lib.hid hclip
           clear hst4 hp ho hrow he hol hout hg hcs htk hmax hclip)
        | (go_at_call 54; refine (Hclip.out).mono ?_; rintro e w5 ⟨rfl, rfl⟩))
      go_ret
      have hsp : out = shortP s.data.toList := by rw [shortP, ← Htot0.out]; exact Hout.out
      refine ⟨_, rfl, ?_, by rw [HB.out]; exact Hst4.out.below⟩
      rw [← hsp, HB.out]
      exact ⟨g, cur, rfl, hbg, Hg.out, by rw [Hcs.out]; omega, by have := Htk.out; rwa [Nat.mul_one] at this⟩
end Go.Proofs.YtjielagabnkimaaDoor
