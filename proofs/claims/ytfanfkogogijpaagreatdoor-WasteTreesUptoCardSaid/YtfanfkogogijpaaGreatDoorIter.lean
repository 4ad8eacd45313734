/- The contracts of strings.Cut at a slash, and of the iterators path.all and path.Pieces. -/
import Derived.Test.YtfanfkogogijpaaGreatDoorSmall
import Derived.Test.YtfanfkogogijpaaGreatDoorRange
import Derived.Shelf.Abstract
import Derived.Shelf.RegionOpen
import Derived.OwnWalkIn
import Derived.TacticsInMore
import Derived.LoopNIn
import Derived.LoopIn
import Derived.Outline
set_option linter.unusedSimpArgs false
set_option linter.unusedVariables false
namespace Go.Proofs.YtfanfkogogijpaaGreatDoor
open Go.RowKit Go.Shelf
open Go.Lib hiding intOf
attribute [local go_sem] Oper.semAt_some

theorem ret_cut {a b c d : ByteArray} {x y : Bool} (h : a = b) (k : c = d) (e : x = y) : Ending.returned (.tuple #[.string a, .string c, .bool x]) = .returned (.tuple #[.string b, .string d, .bool y]) := by rw [h, k, e]
set_option maxHeartbeats 1000000 in
theorem slcut_any (s : ByteArray) (w : World) (hs : s.size < 4611686018427387904) :
    Calls Tryz.prog 57 #[.string s, .string ⟨#[47]⟩] w fun e w' => e = .returned (.tuple #[.string (bs (cutP s.data.toList).1), .string (bs (cutP s.data.toList).2.1), .bool (cutP s.data.toList).2.2]) ∧ Same w w' := by
  have hc := fun W => flip (Tryz.stringslite_Index_one s 47 W)
  have hge := indexByte_ge s.data.toList 47
  rcases Int.lt_or_le (indexByte s.data.toList 47) 0 with hlt | hle
  · have hm : indexByte s.data.toList 47 = -1 := by omega
    have hf := cutP_none hm
    rw [hm] at hc
    have Hc := Lib.hid hc
    have Hf := Lib.hid hf
    clear hc hge hlt hm hf
    go_enter Tryz.func57, Tryz.ntmps57
    go_wp2_with (go_at_call 73; refine (Hc.out _).mono ?_; rintro e w' ⟨rfl, rfl⟩)
    go_ret3
    exact ⟨by rw [Hf.out]; exact ret_cut (bs_of _).symm rfl rfl, Same.refl _⟩
  · obtain ⟨i, hi⟩ := Int.eq_ofNat_of_zero_le hle
    have hf := cutP_some hi
    have hlen : i < s.size := by
      rw [size_eq]
      exact (List.getElem?_eq_some_iff.1 (indexByte_some (o := i) hi).1).1
    rw [hi] at hc
    have Hc := Lib.hid hc
    have Hf := Lib.hid hf
    clear hc hge hle hi hf
    go_enter Tryz.func57, Tryz.ntmps57
    go_wp2_with (go_at_call 73; refine (Hc.out _).mono ?_; rintro e w' ⟨rfl, rfl⟩)
    go_quiet (fail)
    go_wp2
    go_ret3
    exact ⟨by rw [Hf.out]; exact ret_cut (extract_head _ _) (extract_tail _ _) rfl, _, rfl⟩
set_option maxHeartbeats 1000000 in
theorem cut_any (s : ByteArray) (w : World) (hs : s.size < 4611686018427387904) :
    Calls Tryz.prog 34 #[.string s, .string ⟨#[47]⟩] w fun e w' => e = .returned (.tuple #[.string (bs (cutP s.data.toList).1), .string (bs (cutP s.data.toList).2.1), .bool (cutP s.data.toList).2.2]) ∧ Same w w' := by
  have hc := slcut_any s w hs
  have Hc := Lib.hid hc
  clear hc
  go_enter Tryz.func34, Tryz.ntmps34
  go_wp2_with (go_at_call 57; refine (Hc.out).mono ?_; rintro e w' ⟨rfl, hs'⟩)
  go_ret3
  exact ⟨rfl, hs'⟩

theorem grown_drewN (W : World) (n : Nat) (row : Option Nat) : W.grownBy (W.drewN n) row := ⟨rfl, rfl, rfl, Nat.le_refl _, fun _ _ _ => rfl⟩
theorem own_same {β : Type} {B : Nat} {J : β → World → Prop} (h : OwnFrom B J) {s : β} {W W' : World} (hs : J s W) (hw : Same W W') : J s W' := by
  obtain ⟨n, rfl⟩ := hw
  exact h s W _ none hs (grown_drewN W n none) (fun r e => by cases e)
/-- how many rounds are still to come at the most -/
def cutLeft : Value → Value → Nat
  | .string s, .bool true => s.size + 1
  | _, _ => 0

set_option maxRecDepth 100000 in
set_option maxHeartbeats 2000000 in
/-- path.all hands out the pieces of its text, the empty ones too. -/
theorem all_seq (Kp : World → World → Prop) (B : Nat) (s : ByteArray) (w : World) (hs : s.size < 4611686018427387904) (hB : w.cell? ⟨B, 0, none⟩ = some (.string s)) (hlt : B < w.heap.size) :
    SeqL Tryz.prog 74 #[.pointer (some ⟨B, 0, none⟩)] (fun p => #[.string (bs p)]) Kp (pcs s.data.toList) w := by
  intro l J Jx W hW hJ hJx hY h0
  have hc : W.cell? ⟨B, 0, none⟩ = some (.string s) := (hW.cell (p := ⟨B, 0, none⟩) hlt).trans hB
  have HJ := Lib.hid hJ
  have HY := Lib.hid hY
  have H0 := Lib.hid h0
  clear hJ hJx hY h0 hB
  refine callsIn_of_wp Tryz.func74 rfl trivial ?_ rfl
  simp only [Tryz.ntmps74, List.size_toArray, List.length_cons, List.length_nil, Nat.reduceAdd, Nat.reduceSub, Array.replicate_succ, Array.replicate_zero, List.push_toArray, List.append_toArray, List.nil_append, List.cons_append]
  gi_wp2
  gi_loopw [3, 4, 5] (fun r m _ wr => ∃ (pre : List (List UInt8)) (q : ByteArray) (b : Bool), r = .string q ∧ m = .bool b ∧ q.size ≤ s.size ∧ J pre wr ∧ ((b = true ∧ pcs s.data.toList = pre ++ pcs q.data.toList) ∨ (b = false ∧ pcs s.data.toList = pre))) (fun r m _ _ => cutLeft r m)
  case atStart => exact ⟨[], s, true, rfl, rfl, Nat.le_refl _, H0.out, .inl ⟨rfl, rfl⟩⟩
  case round =>
    obtain ⟨pre, q, b, rfl, rfl, hq, hJp, hb⟩ := hrel
    have HJp := Lib.hid hJp
    clear hJp
    rcases hb with ⟨rfl, hL⟩ | ⟨rfl, hL⟩
    · have hcut := cut_any q wr (by omega)
      have hle := cutP_le q.data.toList
      have hsh := cutP_shorter q.data.toList
      rw [pcs_cut q.data.toList] at hL
      rw [← size_eq] at hle hsh
      generalize cutP q.data.toList = c at *
      obtain ⟨p, r, m⟩ := c
      have Hcut : Hid (Calls Tryz.prog 34 #[.string q, .string ⟨#[47]⟩] wr fun e w' => e = .returned (.tuple #[.string (bs p), .string (bs r), .bool m]) ∧ Same wr w') := hcut
      have HL := Lib.hid hL
      have Hsh := Lib.hid hsh
      have Hle := Lib.hid hle
      clear hL hcut hsh hle
      obtain ⟨rest, hrest⟩ : ∃ rest, pcs s.data.toList = pre ++ p :: rest := ⟨_, HL.out⟩
      have Hrest := Lib.hid hrest
      clear hrest
      gi_wp2_with (refine ⟨trivial, rfl, ?_⟩; gi_at_call 34; refine CallsIn.mono (callsIn_wide.2 Hcut.out) ?_; rintro e w1 ⟨rfl, hs1⟩; obtain ⟨fn, tmps, assign, body, hy, hR⟩ := HY.out pre p rest w1 Hrest.out (own_same HJ.out HJp.out hs1); have HR := Lib.hid hR; clear hR hs1)
      refine ⟨rfl, HR.out.mono ?_⟩
      rintro e W3 ⟨_, ⟨rfl, hJ3, hk3⟩ | ⟨rfl, hJx3⟩⟩
      · gi_wp2
        go_roundw
        case rel =>
          refine ⟨pre ++ [p], bs r, m, rfl, rfl, ?_, hJ3, ?_⟩
          · have := Hle.out.2; simp; omega
          · have := HL.out
            cases m
            · exact .inr ⟨rfl, by simpa using this⟩
            · exact .inl ⟨rfl, by simpa using this⟩
        case measure =>
          cases m
          · simp [cutLeft]
          · have := Hsh.out rfl
            simp [cutLeft]
            omega
      · gi_wp2
        refine bodyPost_ret (results_none rfl _ _ _) rfl ?_
        exact ⟨⟨_, rfl⟩, .inr ⟨pre, p, rest, Hrest.out, hJx3⟩⟩
    · gi_wp2
      go_end0
      exact ⟨⟨_, rfl⟩, .inl (by rw [hL]; exact HJp.out)⟩

theorem Tryz.allEnters : ∀ args w, (callFunc 74 args).run Tryz.prog w = .ok (.enter 74 args) w := enters_of Tryz.func74 (by kernel_rfl) rfl
theorem allFn_any (s : ByteArray) (w : World) : Calls Tryz.prog 59 #[.string s] w fun e w' => e = .returned (.func (.func 74) #[] #[.pointer (some ⟨w.heap.size, 0, none⟩)]) ∧ w' = w.alloc (.cells #[.string s] 9) := by
  have hmf : ∀ (fn : Fn) (first cap : Array Value) (w : World), (Instr.makeFunc fn first cap).run Tryz.prog w = .ok (.func fn first cap) w := fun _ _ _ _ => rfl
  go_enter Tryz.func59, Tryz.ntmps59
  go_wp2
  go_ret
  exact ⟨rfl, rfl⟩
def ne (l : List (List UInt8)) : List (List UInt8) := l.filter (fun p => !p.isEmpty)
theorem ne_nil : ne [] = [] := rfl
theorem ne_snoc_e (pre : List (List UInt8)) : ne (pre ++ [[]]) = ne pre := by simp [ne]
theorem ne_snoc (pre : List (List UInt8)) {x : List UInt8} (h : x ≠ []) : ne (pre ++ [x]) = ne pre ++ [x] := by cases x <;> simp_all [ne]
theorem ne_mid (pre rest : List (List UInt8)) {x : List UInt8} (h : x ≠ []) : ne (pre ++ x :: rest) = ne pre ++ x :: ne rest := by cases x <;> simp_all [ne]
theorem pieces_ne (l : List UInt8) : pieces l = ne (pcs l) := rfl

end Go.Proofs.YtfanfkogogijpaaGreatDoor
