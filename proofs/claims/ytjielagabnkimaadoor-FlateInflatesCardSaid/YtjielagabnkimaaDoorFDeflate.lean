/- flate.Deflate: of every text (less than 2^30 bytes). -/
import Derived.Test.YtjielagabnkimaaDoorFShort
import Derived.Lib.AppendStr
import Derived.Laws.IdiomStrings
set_option linter.unusedSimpArgs false
set_option linter.unusedVariables false
namespace Go.Proofs.YtjielagabnkimaaDoor
open Go.RowKit
def bs (l : List UInt8) : ByteArray := ⟨l.toArray⟩
@[simp] theorem bs_toList (l : List UInt8) : (bs l).data.toList = l := rfl
@[simp] theorem bs_size (l : List UInt8) : (bs l).size = l.length := rfl
theorem bs_of (s : ByteArray) : bs s.data.toList = s := by cases s; rfl
theorem ret_str {a b : ByteArray} (h : a = b) : Ending.returned (.string a) = .returned (.string b) := by rw [h]
theorem append_bs (a b : ByteArray) : a ++ b = bs (a.data.toList ++ b.data.toList) := by
  apply ByteArray.ext
  simp [bs]
theorem extract_bs (s : ByteArray) (i j : Nat) : s.extract i j = bs ((s.data.toList.drop i).take (j - i)) := by
  apply ByteArray.ext
  apply Array.toList_inj.1
  simp [bs, ByteArray.extract, ByteArray.copySlice, List.drop_take]
/-- string(b), b a slice of bytes -/
theorem conv_bytes (w : World) (base g n c : Nat) (l : List UInt8) (hn : n = l.length) (h : ∀ j, j < l.length → w.cell? ⟨g, j, none⟩ = some (encB (l.getD j 0))) :
    (convert 39 9 (.slice (some ⟨g, 0, none⟩) n c)).run Tryd.prog w = .ok (.string (bs l)) w := by
  subst hn
  exact run_convert_bytes_back w _ _ 5 ⟨g, 0, none⟩ c l Tryd.underlying39 Tryd.underlying5 Tryd.underlying9 (fun j hj => by
    have := h j hj
    rw [List.getD_eq_getElem?_getD, List.getElem?_eq_getElem hj] at this
    rw [show (⟨g, 0, none⟩ : Addr).add j = ⟨g, j, none⟩ from by unfold Addr.add; split <;> simp_all]
    simpa [encB] using this)
theorem cells_take {w : World} {g : Nat} {cur : Array Value} {l : List UInt8} (hg : w.heap[g]? = some (.cells cur 5 (0, 0))) (ht : cur.toList.take l.length = l.map encB) : ∀ j, j < l.length → w.cell? ⟨g, j, none⟩ = some (encB (l.getD j 0)) := by
  intro j hj
  rw [cell_of_row w g j cur _ _ hg]
  have h := congrArg (fun x => x[j]?) ht
  simp only [List.getElem?_take, hj, if_true, List.getElem?_map, List.getElem?_eq_getElem hj, Option.map_some] at h
  rw [← Array.getElem?_toList, h, List.getD_eq_getElem?_getD, List.getElem?_eq_getElem hj]
  rfl

theorem cell_new_row (w : World) (xs : List Value) (t : TypeId) : ∀ j u, xs[j]? = some u → (w.alloc (.cells xs.toArray t)).cell? ((⟨w.heap.size, 0, none⟩ : Addr).add j) = some u := by
  intro j u hj
  rw [show (⟨w.heap.size, 0, none⟩ : Addr).add j = ⟨w.heap.size, j, none⟩ from by unfold Addr.add; split <;> simp_all]
  rw [cell_of_row _ _ j xs.toArray t _ (World.alloc_heap_new w _), List.getElem?_toArray]
  exact hj
theorem below_grown {w wr w' : World} {base : Nat} {e : TypeId} {size : Nat} {v : Value} {n : Nat} {xs : List Value} {tmp : Obj} (h : wr.ownsRow base e size v n xs) (hb : Below base w wr) (hB : base ≤ wr.heap.size) (hg : (wr.alloc tmp).grownBy w' v.ownBlock) : Below base w w' :=
  (hb.alloc hB tmp).trans ⟨hg.os, hg.tape, hg.output, hg.size, fun k hk => hg.block k (by simp only [World.size_alloc]; omega) (fun e => by have := (h.lt k e.symm).1; omega)⟩
theorem below_grown0 {w wr w' : World} {base : Nat} {e : TypeId} {size : Nat} {v : Value} {n : Nat} {xs : List Value} (h : wr.ownsRow base e size v n xs) (hb : Below base w wr) (hB : base ≤ wr.heap.size) (hg : wr.grownBy w' v.ownBlock) : Below base w w' :=
  hb.trans ⟨hg.os, hg.tape, hg.output, hg.size, fun k hk => hg.block k (by omega) (fun e => by have := (h.lt k e.symm).1; omega)⟩
set_option maxRecDepth 10000 in
theorem xor255 (x : Nat) (h : x < 256) : bits .xor .u8 IntKind.u8.max (x : Int) = ((255 - x : Nat) : Int) := by
  rw [show IntKind.u8.max = ((255 : Nat) : Int) from rfl, u8_xor_nat 255 x (by decide) h]
  congr 1
  exact (by decide : ∀ x, x < 256 → 255 ^^^ x = 255 - x) x h
/-- the head of a stored block -/
def headB (b : UInt8) (n : Nat) : List UInt8 := [b, UInt8.ofNat (n % 256), UInt8.ofNat (n / 256), UInt8.ofNat (255 - n % 256), UInt8.ofNat (255 - n / 256)]
theorem headB_enc (b : UInt8) (n : Nat) (h : n ≤ 65535) : [Value.int .u8 (b.toNat : Int), .int .u8 ((n : Int) % 256), .int .u8 ((n : Int) / 256), .int .u8 (bits .xor .u8 IntKind.u8.max ((n : Int) % 256)), .int .u8 (bits .xor .u8 IntKind.u8.max ((n : Int) / 256))] = (headB b n).map encB := by
  rw [show (n : Int) % 256 = ((n % 256 : Nat) : Int) from by omega, show (n : Int) / 256 = ((n / 256 : Nat) : Int) from by omega, xor255 _ (by omega), xor255 _ (by omega)]
  simp only [headB, List.map_cons, List.map_nil, encB, UInt8.toNat_ofNat']
  rw [Nat.mod_eq_of_lt (by omega : n % 256 < 2 ^ 8), Nat.mod_eq_of_lt (by omega : n / 256 < 2 ^ 8), Nat.mod_eq_of_lt (by omega : 255 - n % 256 < 2 ^ 8), Nat.mod_eq_of_lt (by omega : 255 - n / 256 < 2 ^ 8)]
theorem stored_fold (f : Nat) (l : List UInt8) : storedP (f + 1) l = [(if l.length ≤ 65535 then 1 else 0), UInt8.ofNat ((min l.length 65535) % 256), UInt8.ofNat ((min l.length 65535) / 256), UInt8.ofNat (255 - (min l.length 65535) % 256), UInt8.ofNat (255 - (min l.length 65535) / 256)] ++
      l.take 65535 ++ (if l.length ≤ 65535 then [] else storedP f (l.drop 65535)) := rfl

set_option maxRecDepth 100000 in
set_option maxHeartbeats 8000000 in
theorem deflate_any (s : ByteArray) (w : World) (hs : s.size < 2 ^ 30) (hT : Tabs w) :
    Calls Tryd.prog 9 #[.string s] w fun e w' => e = .returned (.string (bs (deflateP s.data.toList))) ∧ Below w.heap.size w w' := by
  obtain ⟨i0, hi, hz0, hz1, hz2⟩ := info_parts Tryd.info_byte
  have hshort := short_any s w hs hT
  have hlen : s.data.toList.length = s.size := rfl
  obtain ⟨nb, hnb⟩ : ∃ n, n = blocksN s.size := ⟨_, rfl⟩
  have hnb2 := hnb
  unfold blocksN at hnb2
  have hnb3 : nb = if 1 ≤ (s.size + 65534) / 65535 then (s.size + 65534) / 65535 else 1 := by rw [hnb2]; split <;> omega
  obtain ⟨sp, hsp⟩ : ∃ l, l = shortP s.data.toList := ⟨_, rfl⟩
  rw [← hsp] at hshort
  have Hi := Lib.hid hi
  have Hz0 := Lib.hid hz0
  have Hz1 := Lib.hid hz1
  have Hz2 := Lib.hid hz2
  have Hshort := Lib.hid hshort
  have Hsp := Lib.hid hsp
  have Hlen := Lib.hid hlen
  have Hnb := Lib.hid hnb
  have Hnb3 := Lib.hid hnb3
  clear hi hz0 hz1 hz2 hshort hsp hlen hnb hnb2 hnb3
  go_enter Tryd.func9, Tryd.ntmps9
  obtain ⟨m, hm⟩ : ∃ m : Int, m = 65535 := ⟨_, rfl⟩
  rw [← hm]
  have hm1 : 1 ≤ m := by omega
  have hm2 : m ≤ 2 ^ 17 := by omega
  have Hm := Lib.hid hm
  clear hm
  go_upto_region 1 with fail
  go_cut [3] (fun v wx => v = .int .i64 (nb : Int) ∧ w = wx)
  case first =>
    go_wp2_with fail
    all_goals
      go_meet
      have hm := Hm.out
      have h3 := Hnb3.out
      refine ⟨congrArg (Value.int .i64) ?_, rfl⟩
      subst hm
      split at h3 <;> omega
  case rest =>
    obtain ⟨rfl, rfl⟩ := hcut
    have hnb1 : 1 ≤ nb := by
      rw [Hnb3.out]; split <;> omega
    have hnb2 : nb < 2 ^ 20 := by
      rw [Hnb3.out]; split <;> omega
    by_cases hgt : (sp.length : Int) < (s.size : Int) + 5 * (nb : Int)
    · go_wp2_with (go_at_call 22; refine (Hshort.out).mono ?_; rintro e w1 ⟨v, rfl, ⟨g, cur, rfl, hbg, hg, hcl, htk⟩, hb1⟩
                   have hcv := conv_bytes w1 0 g sp.length sp.length sp rfl (cells_take hg htk)
                   have Hb1 := Lib.hid hb1
                   clear hg htk hb1)
      go_ret
      exact ⟨ret_str (by unfold deflateP; rw [if_pos (by rw [← Hsp.out, Hlen.out, ← Hnb.out]; omega), Hsp.out]), Hb1.out⟩
    · have hdef : deflateP s.data.toList = storedP nb s.data.toList := by
        unfold deflateP
        rw [if_neg (by rw [← Hsp.out, Hlen.out, ← Hnb.out]; omega), Hlen.out, ← Hnb.out]
      have Hdef := Lib.hid hdef
      clear hdef
      go_wp2_with (first
        | (go_at_call 22; refine (Hshort.out).mono ?_; rintro e w1 ⟨v, rfl, ⟨g, cur, rfl, hbg, hg, hcl, htk⟩, hb1⟩
           have hz1 := hb1.size
           have Hb1 := Lib.hid hb1
           clear hg htk hb1)
        | (refine wpList_make_own _ rfl _ _ 39 rfl w1.heap.size 5 i0 (.int .u8 0) 1 Tryd.underlying39 Hi.out Hz0.out Hz1.out _ _ _ (s.size + 5 * nb) rfl rfl (by simp) (by rw [Hz2.out]; omega) (by unfold maxLen; omega) (Nat.le_refl _) ?_; intro w2 hown2 hgr2
           have hb2 : Below w1.heap.size w1 w2 := ⟨hgr2.os, hgr2.tape, hgr2.output, hgr2.size, fun k hk => hgr2.block k hk (by simp)⟩
           have Hown2 := Lib.hid hown2
           have Hb2 := Lib.hid hb2
           clear hown2 hgr2 hb2))
      go_loopw [5, 35] (fun ov iv wr => ∃ (i : Nat) (done : List UInt8), iv = .int .i64 (i : Int) ∧ i ≤ nb ∧ wr.ownsRow w1.heap.size 5 1 ov done.length (done.map encB) ∧ Below w1.heap.size w1 wr ∧ done.length ≤ 70000 * i ∧ done ++ storedP (nb - i) (s.data.toList.drop (65535 * i)) = storedP nb s.data.toList) (fun _ iv _ => nb - (intOf iv).toNat)
      case atStart => exact ⟨0, [], rfl, by omega, Hown2.out, Hb2.out, by simp, by simp⟩
      case round =>
        obtain ⟨i, done, rfl, hi, hown, hbr, hdl, hdone⟩ := hrel
        have Hown := Lib.hid hown
        have Hbr := Lib.hid hbr
        have Hdone := Lib.hid hdone
        clear hown hbr hdone
        by_cases hlt : (i : Int) < (nb : Int)
        · obtain ⟨I, hI⟩ : ∃ I, I = i * 65535 := ⟨_, rfl⟩
          obtain ⟨J, hJ⟩ : ∃ J, J = (i + 1) * 65535 := ⟨_, rfl⟩
          have eI : (i : Int) * m = (I : Int) := by rw [Hm.out, hI]; omega
          have eJ : ((i : Int) + 1) * m = (J : Int) := by rw [Hm.out, hJ]; omega
          have hIJ : J = I + 65535 := by omega
          have hIs : I ≤ s.size := by have := Hnb3.out; split at this <;> omega
          have hJb : J < 2 ^ 37 := by omega
          have HI := Lib.hid hI
          have HJ := Lib.hid hJ
          have HIJ := Lib.hid hIJ
          clear hI hJ hIJ
          by_cases hend : i + 1 = nb
          · have hle : (s.size : Int) ≤ (J : Int) := by
              have h1 := Hnb3.out
              have h2 := HJ.out
              split at h1 <;> omega
            have hb1 : ((i : Int) == (nb : Int) - 1) = true := by simp; omega
            have hIz : (I : Int) ≤ (s.size : Int) := by omega
            obtain ⟨n, hn⟩ : ∃ n, n = s.size - I := ⟨_, rfl⟩
            have hsz : (s.extract I s.size).size = n := by rw [ByteArray.size_extract]; omega
            have hn64 : n ≤ 65535 := by have := HIJ.out; omega
            have Hn := Lib.hid hn
            clear hn
            go_wp2_with (first
              | (at_builtin; refine wpList_append_own_at _ rfl _ _ 39 rfl w1.heap.size 5 i0 (.int .u8 0) 1 1 Tryd.underlying39 Hi.out Hz0.out Hz1.out Hz2.out rfl (by decide) _ _ _ rfl (Hown.out.alloc _) ⟨wr.heap.size, 0, none⟩ 5 5 [Value.int .u8 1, .int .u8 ((n : Int) % 256), .int .u8 ((n : Int) / 256), .int .u8 (bits .xor .u8 IntKind.u8.max ((n : Int) % 256)), .int .u8 (bits .xor .u8 IntKind.u8.max ((n : Int) / 256))] rfl rfl (cell_new_row wr _ _) (by simp [Value.oneCell']) (by unfold maxLen; omega) (by omega) (by simp only [World.size_alloc]; have := Hbr.out.size; omega) ?_; intro v3 w3 hown3 hgr3 _ _
                 have hb3 := below_grown Hown.out Hbr.out (by have := Hbr.out.size; omega) hgr3
                 have hz3 := hb3.size
                 have Hown3 := Lib.hid hown3
                 have Hb3 := Lib.hid hb3
                 clear hown3 hgr3 hb3)
              | (at_builtin; refine Lib.wpList_append_own_string _ rfl _ _ 39 9 rfl w1.heap.size 5 i0 Tryd.underlying39 Tryd.underlying9 Hi.out Hz0.out Hz1.out Hz2.out _ _ _ rfl Hown3.out (s.extract I s.size) rfl (by rw [hsz]; unfold maxLen; omega) (by rw [hsz]; omega) hz3 ?_; intro v4 w4 hown4 hgr4 _
                 have hb4 := below_grown0 Hown3.out Hb3.out hz3 hgr4
                 have Hown4 := Lib.hid hown4
                 have Hb4 := Lib.hid hb4
                 clear hown4 hgr4 hb4))
            go_roundw
            case rel =>
              refine ⟨i + 1, done ++ headB 1 n ++ (s.extract I s.size).data.toList, by go_num, by omega, ?_, Hb4.out, ?_, ?_⟩
              · have h4 := Hown4.out
                rw [show (1 : Int) = ((1 : UInt8).toNat : Int) from rfl, headB_enc 1 n hn64] at h4
                rw [List.length_append, List.length_append, List.map_append, List.map_append]
                exact h4
              · have hx : (s.extract I s.size).data.toList.length = n := hsz
                rw [List.length_append, List.length_append, hx]
                simp only [headB, List.length_cons, List.length_nil]
                omega
              · rw [← Hdone.out]
                have hd := Hlen.out
                have e1 : (s.data.toList.drop (65535 * i)).length = s.size - I := by rw [List.length_drop, hd]; have := HI.out; omega
                obtain ⟨f, hf⟩ : ∃ f, nb - i = f + 1 := ⟨nb - i - 1, by omega⟩
                rw [hf, stored_fold, e1, if_pos (by have := Hn.out; have := HIJ.out; omega), if_pos (by have := Hn.out; have := HIJ.out; omega), show min (s.size - I) 65535 = n by have := Hn.out; have := HIJ.out; omega]
                rw [extract_bs, bs_toList, show s.size - I = n by have := Hn.out; omega]
                simp only [headB, List.append_assoc]
                rw [show I = 65535 * i by have := HI.out; omega]
                rw [show nb - (i + 1) = 0 by omega, storedP]
                rw [List.take_of_length_le (show (s.data.toList.drop (65535 * i)).length ≤ n by rw [e1]; have := Hn.out; omega), List.take_of_length_le (show (s.data.toList.drop (65535 * i)).length ≤ 65535 by rw [e1]; have := Hn.out; omega)]
            case measure => simp [intOf]; omega
          · have hle : (J : Int) < (s.size : Int) := by
              have h1 := Hnb3.out
              have h2 := HJ.out
              split at h1 <;> omega
            have hJs : J < s.size := by omega
            have hb1 : ((i : Int) == (nb : Int) - 1) = false := by simp; omega
            have hIz : (I : Int) ≤ (J : Int) := by have := HIJ.out; omega
            have hIz2 : I ≤ J := by omega
            have hnle : ¬ (s.size : Int) ≤ (J : Int) := by omega
            obtain ⟨n, hn⟩ : ∃ n, n = J - I := ⟨_, rfl⟩
            have hsz : (s.extract I J).size = n := by rw [ByteArray.size_extract]; omega
            have hn64 : n ≤ 65535 := by have := HIJ.out; omega
            have Hn := Lib.hid hn
            clear hn
            go_wp2_with (first
              | (at_builtin; refine wpList_append_own_at _ rfl _ _ 39 rfl w1.heap.size 5 i0 (.int .u8 0) 1 1 Tryd.underlying39 Hi.out Hz0.out Hz1.out Hz2.out rfl (by decide) _ _ _ rfl (Hown.out.alloc _) ⟨wr.heap.size, 0, none⟩ 5 5 [Value.int .u8 0, .int .u8 ((n : Int) % 256), .int .u8 ((n : Int) / 256), .int .u8 (bits .xor .u8 IntKind.u8.max ((n : Int) % 256)), .int .u8 (bits .xor .u8 IntKind.u8.max ((n : Int) / 256))] rfl rfl (cell_new_row wr _ _) (by simp [Value.oneCell']) (by unfold maxLen; omega) (by omega) (by simp only [World.size_alloc]; have := Hbr.out.size; omega) ?_; intro v3 w3 hown3 hgr3 _ _
                 have hb3 := below_grown Hown.out Hbr.out (by have := Hbr.out.size; omega) hgr3
                 have hz3 := hb3.size
                 have Hown3 := Lib.hid hown3
                 have Hb3 := Lib.hid hb3
                 clear hown3 hgr3 hb3)
              | (at_builtin; refine Lib.wpList_append_own_string _ rfl _ _ 39 9 rfl w1.heap.size 5 i0 Tryd.underlying39 Tryd.underlying9 Hi.out Hz0.out Hz1.out Hz2.out _ _ _ rfl Hown3.out (s.extract I J) rfl (by rw [hsz]; unfold maxLen; omega) (by rw [hsz]; omega) hz3 ?_; intro v4 w4 hown4 hgr4 _
                 have hb4 := below_grown0 Hown3.out Hb3.out hz3 hgr4
                 have Hown4 := Lib.hid hown4
                 have Hb4 := Lib.hid hb4
                 clear hown4 hgr4 hb4))
            go_roundw
            case rel =>
              refine ⟨i + 1, done ++ headB 0 n ++ (s.extract I J).data.toList, by go_num, by omega, ?_, Hb4.out, ?_, ?_⟩
              · have h4 := Hown4.out
                rw [show (0 : Int) = ((0 : UInt8).toNat : Int) from rfl, headB_enc 0 n hn64] at h4
                rw [List.length_append, List.length_append, List.map_append, List.map_append]
                exact h4
              · have hx : (s.extract I J).data.toList.length = n := hsz
                rw [List.length_append, List.length_append, hx]
                simp only [headB, List.length_cons, List.length_nil]
                omega
              · rw [← Hdone.out]
                have hd := Hlen.out
                have e1 : (s.data.toList.drop (65535 * i)).length = s.size - I := by rw [List.length_drop, hd]; have := HI.out; omega
                obtain ⟨f, hf⟩ : ∃ f, nb - i = f + 1 := ⟨nb - i - 1, by omega⟩
                rw [hf, stored_fold, e1, if_neg (by have := HIJ.out; omega), if_neg (by have := HIJ.out; omega), show min (s.size - I) 65535 = n by have := Hn.out; have := HIJ.out; omega]
                rw [extract_bs, bs_toList, show J - I = 65535 by have := HIJ.out; omega]
                simp only [headB, List.append_assoc]
                rw [show I = 65535 * i by have := HI.out; omega]
                rw [show nb - (i + 1) = f by omega, List.drop_drop, show 65535 * i + 65535 = 65535 * (i + 1) by omega]
            case measure => simp [intOf]; omega
        · obtain rfl : i = nb := by omega
          have hfin := Hdone.out
          rw [Nat.sub_self, storedP, List.append_nil] at hfin
          obtain ⟨og, ocap, hov, hoc⟩ : ∃ og ocap, u5 = .slice (some ⟨og, 0, none⟩) done.length ocap ∧ ∀ j, j < done.length → wr.cell? ⟨og, j, none⟩ = some (encB (done.getD j 0)) := by
            rcases Hown.out.2 with ⟨rfl, h0⟩ | ⟨g', cap', cur', rfl, hb', hg', h1', h2', h3', h4'⟩
            · exfalso
              obtain ⟨f, hf⟩ : ∃ f, i = f + 1 := ⟨i - 1, by omega⟩
              rw [hf, stored_fold] at hfin
              have := congrArg List.length hfin
              simp only [List.length_append, List.length_cons, List.length_nil] at this
              omega
            · exact ⟨g', cap', rfl, cells_take hg' (by rw [Nat.mul_one] at h4'; exact h4')⟩
          have hcv := conv_bytes wr 0 og done.length ocap done rfl hoc
          subst hov
          have Hfin := Lib.hid hfin
          clear hfin hoc
          go_wp2_with fail
          go_ret
          exact ⟨ret_str (by rw [Hdef.out, Hfin.out]), Hb1.out.trans (Hbr.out.mono (by omega))⟩
end Go.Proofs.YtjielagabnkimaaDoor
