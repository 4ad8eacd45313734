/- Joined: what these texts prove stands at the head of each part: Kit, Utf, FKeep, Spec, Range, Weight, Ord, GRows. -/
import Derived.WalkKit
import Derived.WalkLawsBesides
import Derived.WalkSpells
import Derived.Lib.Hide
import Derived.Deep.QuietTactic
import Derived.BigQuiet
import Derived.Deep.LoopGhost
import Derived.Lib.OthersKept
import Derived.Laws.RangeAny
import Derived.Laws.Runes
import Derived.Lib.IndexAny
import Derived.RangeFuncBox
import Derived.RangeFuncNested
import Derived.Maps.AppendAt
import Derived.Lib.Strings
import Derived.Lib.IndexBytes
import Derived.Lib.IndexLaws
import Derived.Lib.LastIndexByte
import Derived.Lib.Join
import Derived.RangeFuncBound
import Derived.RangeFuncCalls
import Derived.RangeFuncLeaves
import Derived.Sort.Walk0
import Derived.Deep.Slices
import Derived.Laws.Rows
import Derived.Laws.Tables
import Derived.StillTailTactics
import Derived.OwnWalk
set_option linter.unusedSimpArgs false
set_option linter.unusedVariables false
namespace Go.Proofs.YtipfccfjniglbaaGreatDoor
section
open Go.RowKit
theorem quiet_add {P : Program} {f : FuncId} {args : Array Value} {w : World} {a n : Nat} {v : Value}
    (h : Calls P f args (w.drewN (a + n)) fun e w' => e = .returned v ∧ ∃ m, w' = (w.drewN (a + n)).drewN m) :
    Calls P f args (w.drewN (a + n)) fun e w'' => e = .returned v ∧ ∃ m, w'' = w.drewN (a + m) :=
  h.mono fun _ _ ⟨he, m, hm⟩ => ⟨he, n + m, by rw [hm, World.drewN_drewN, Nat.add_assoc]⟩
theorem quiet_add_same {P : Program} {f : FuncId} {args : Array Value} {w : World} {a n : Nat} {v : Value}
    (h : Calls P f args (w.drewN (a + n)) fun e w' => e = .returned v ∧ w' = w.drewN (a + n)) :
    Calls P f args (w.drewN (a + n)) fun e w'' => e = .returned v ∧ ∃ m, w'' = w.drewN (a + m) :=
  h.mono fun _ _ ⟨he, hm⟩ => ⟨he, n, hm⟩
theorem quiet_add_left {P : Program} {f : FuncId} {args : Array Value} {w : World} {a n : Nat} {v : Value}
    (h : Calls P f args (w.drewN (a + n)) fun e w' => e = .returned v ∧ w.drewN (a + n) = w') :
    Calls P f args (w.drewN (a + n)) fun e w'' => e = .returned v ∧ ∃ m, w'' = w.drewN (a + m) :=
  h.mono fun _ _ ⟨he, hm⟩ => ⟨he, n, hm.symm⟩
theorem quiet_left {P : Program} {f : FuncId} {args : Array Value} {w : World} {n : Nat} {v : Value}
    (h : Calls P f args (w.drewN n) fun e w' => e = .returned v ∧ w.drewN n = w') : Calls P f args (w.drewN n) fun e w'' => e = .returned v ∧ ∃ m, w'' = w.drewN m :=
  h.mono fun _ _ ⟨he, hm⟩ => ⟨he, n, hm.symm⟩
theorem below_drewN {B : Nat} {a w : World} (h : Below B a w) (n : Nat) : Below B a (w.drewN n) := ⟨h.os, h.tape, h.output, h.size, h.block⟩
theorem below_drew {B : Nat} {a w : World} (h : Below B a w) : Below B a w.drew := ⟨h.os, h.tape, h.output, h.size, h.block⟩
theorem bcell {W w1 : World} (hb : Below W.heap.size W w1) : (∀ b o, b < W.heap.size → w1.cell? ⟨b, o, none⟩ = W.cell? ⟨b, o, none⟩) ∧ (∀ b o, b < W.heap.size → w1.frozen? ⟨b, o, none⟩ = W.frozen? ⟨b, o, none⟩) :=
  ⟨fun b o h => hb.cell (p := ⟨b, o, none⟩) h, fun b o h => hb.frozen (p := ⟨b, o, none⟩) h⟩
/-- a byte of a text that is written out -/
theorem ba_get (l : List UInt8) (i : Nat) (h : i < (ByteArray.mk l.toArray).size) : (ByteArray.mk l.toArray)[i]'h = l[i]'h := rfl
theorem flip {P : Program} {f : FuncId} {args : Array Value} {w : World} {x : Ending} (h : Calls P f args w fun e w' => e = x ∧ w' = w) : Calls P f args w fun e w' => e = x ∧ w = w' :=
  h.mono fun _ _ ⟨a, b⟩ => ⟨a, b.symm⟩
theorem below_iterAt {B : Nat} {a w : World} (h : Below B a w) (k : Nat) (s : ByteArray) (p : Nat) (hk : B ≤ k) : Below B a (w.iterAt k s p) :=
  ⟨h.os, h.tape, h.output, by simpa [World.iterAt] using h.size, fun i hi => (by simp only [World.iterAt]; rw [Array.getElem?_setIfInBounds_ne (by omega)] : (w.iterAt k s p).heap[i]? = w.heap[i]?).trans (h.block i hi)⟩
theorem iterAt_heap {w : World} {k : Nat} {o : Obj} (h : w.heap[k]? = some o) (s : ByteArray) (p : Nat) : (w.iterAt k s p).heap[k]? = some (.stringIter s p) := by
  have hlt := (Array.getElem?_eq_some_iff.1 h).1
  simp [World.iterAt, hlt]
/-- the world is the same up to draws -/
def Same (w w' : World) : Prop := ∃ n, w' = w.drewN n
theorem Same.refl (w : World) : Same w w := ⟨0, rfl⟩
theorem Same.below {w w' : World} (h : Same w w') (B : Nat) : Below B w w' := by
  obtain ⟨n, rfl⟩ := h
  exact below_drewN (Below.refl _ _) n
end
end Go.Proofs.YtipfccfjniglbaaGreatDoor
namespace Go.Proofs.YtipfccfjniglbaaGreatDoor
section
theorem get_some (s : ByteArray) (i : Nat) (h : i < s.size) : s.data.toList[i]? = some (s.get! i) := by
  have e := Go.get_at s i h
  rw [Nat.add_zero] at e
  rw [e, List.getElem?_eq_getElem (by simpa using h)]
  rfl
theorem decode_valid (s : ByteArray) (i : Nat) : Utf8.valid ((Utf8.decode s i).1 : Int) = true := by
  have hb : ∀ k, (s.get! (i + k)).toNat < 256 := fun k => (s.get! (i + k)).toNat_lt
  have h0 := (s.get! i).toNat_lt; have h1 := hb 1; have h2 := hb 2; have h3 := hb 3
  unfold Utf8.decode
  simp only [Nat.add_zero]
  repeat' split
  all_goals first
    | (rename_i hx; simp only [Bool.and_eq_true, decide_eq_true_eq] at hx; exact hx.2)
    | (unfold Utf8.valid Utf8.runeError; decide)
    | (unfold Utf8.valid; simp; omega)
theorem decode_skip (s : ByteArray) (i : Nat) (h : i < s.size) (h128 : 128 ≤ (s.get! i).toNat) :
    i + (Utf8.decode s i).2 ≤ s.size ∧ ∀ j, i ≤ j → j < i + (Utf8.decode s i).2 → 128 ≤ (s.get! j).toNat := by
  have hc : ∀ k, (i + k < s.size && (s.get! (i + k)).toNat / 64 == 2) = true → i + k < s.size ∧ 128 ≤ (s.get! (i + k)).toNat := by
    intro k hk
    simp only [Bool.and_eq_true, decide_eq_true_eq, beq_iff_eq] at hk
    exact ⟨hk.1, by omega⟩
  have one : i + 1 ≤ s.size ∧ ∀ j, i ≤ j → j < i + 1 → 128 ≤ (s.get! j).toNat := ⟨h, fun j a b => (by omega : j = i) ▸ h128⟩
  simp only [Utf8.decode, Nat.add_zero]
  rw [if_neg (by omega)]
  split
  · rename_i hx
    have c1 := hc 1 (by simp only [Bool.and_eq_true] at hx ⊢; exact hx.2)
    split
    · exact ⟨by show i + 2 ≤ _; omega, fun j a b => by
        have b' : j < i + 2 := b
        rcases (by omega : j = i ∨ j = i + 1) with rfl | rfl
        · exact h128
        · exact c1.2⟩
    · exact one
  · split
    · rename_i hx
      simp only [Bool.and_eq_true] at hx
      have c1 := hc 1 (by simp only [Bool.and_eq_true]; exact hx.1.2)
      have c2 := hc 2 (by simp only [Bool.and_eq_true]; exact hx.2)
      split
      · exact ⟨by show i + 3 ≤ _; omega, fun j a b => by
          have b' : j < i + 3 := b
          rcases (by omega : j = i ∨ j = i + 1 ∨ j = i + 2) with rfl | rfl | rfl
          · exact h128
          · exact c1.2
          · exact c2.2⟩
      · exact one
    · split
      · rename_i hx
        simp only [Bool.and_eq_true] at hx
        have c1 := hc 1 (by simp only [Bool.and_eq_true]; exact hx.1.1.2)
        have c2 := hc 2 (by simp only [Bool.and_eq_true]; exact hx.1.2)
        have c3 := hc 3 (by simp only [Bool.and_eq_true]; exact hx.2)
        split
        · exact ⟨by show i + 4 ≤ _; omega, fun j a b => by
            have b' : j < i + 4 := b
            rcases (by omega : j = i ∨ j = i + 1 ∨ j = i + 2 ∨ j = i + 3) with rfl | rfl | rfl | rfl
            · exact h128
            · exact c1.2
            · exact c2.2
            · exact c3.2⟩
        · exact one
      · exact one
theorem decode_low (s : ByteArray) (i : Nat) (h : i < s.size) (h128 : (s.get! i).toNat < 128) : Utf8.decode s i = ((s.get! i).toNat, 1) := by
  have e := Go.get_at s i h
  rw [Nat.add_zero] at e
  rw [Go.decode_ascii s i h (by rw [← e]; exact h128), ← e]
theorem decode_up (s : ByteArray) (i : Nat) (h : i < s.size) (h128 : 128 ≤ (s.get! i).toNat) : 128 ≤ (Utf8.decode s i).1 ∧ 1 ≤ (Utf8.decode s i).2 := by
  have e := Go.get_at s i h
  rw [Nat.add_zero] at e
  exact Go.decode_high s i h (by rw [← e]; exact h128)
/-- the bytes of a rune of 128 or more: two, three or four; the last is no ASCII byte. -/
theorem encode_forms (r : Int) (hv : Utf8.valid r = true) (h : 128 ≤ r) :
    (∃ a b : UInt8, Utf8.encode r = ⟨#[a, b]⟩ ∧ 128 ≤ b.toNat) ∨ (∃ a b c : UInt8, Utf8.encode r = ⟨#[a, b, c]⟩) ∨ (∃ a b c d : UInt8, Utf8.encode r = ⟨#[a, b, c, d]⟩) := by
  have hc : ¬ r.toNat < 128 := by omega
  unfold Utf8.encode
  simp only [hv, if_true, hc, if_false]
  split
  · exact .inl ⟨_, _, rfl, by simp; omega⟩
  · split
    · exact .inr (.inl ⟨_, _, _, rfl⟩)
    · exact .inr (.inr ⟨_, _, _, _, rfl⟩)

/-- a zero byte or a slash -/
def bad (c : UInt8) : Bool := c == 0 || c == 47
theorem bad_high (c : UInt8) (h : 128 ≤ c.toNat) : bad c = false := by
  unfold bad
  rw [Bool.or_eq_false_iff]
  constructor <;> rw [beq_eq_false_iff_ne] <;> rintro rfl <;> simp at h
/-- none of the first i bytes is bad -/
def NoBad (s : ByteArray) (i : Nat) : Prop := ∀ j, j < i → ∀ c, s.data.toList[j]? = some c → bad c = false
theorem NoBad.zero (s : ByteArray) : NoBad s 0 := fun j h => absurd h (by omega)
theorem NoBad.succ {s : ByteArray} {i : Nat} (h : NoBad s i) (hi : i < s.size) (hb : bad (s.get! i) = false) : NoBad s (i + 1) := by
  intro j hj c hc
  rcases (by omega : j < i ∨ j = i) with h1 | rfl
  · exact h j h1 c hc
  · rw [get_some s j hi] at hc
    cases hc
    exact hb
theorem NoBad.skip {s : ByteArray} {i : Nat} (h : NoBad s i) (hi : i < s.size) (h128 : 128 ≤ (s.get! i).toNat) : NoBad s (i + (Utf8.decode s i).2) := by
  intro j hj c hc
  rcases Nat.lt_or_ge j i with h1 | h1
  · exact h j h1 c hc
  · have hs := decode_skip s i hi h128
    rw [get_some s j (by omega)] at hc
    cases hc
    exact bad_high _ (hs.2 j h1 hj)
theorem NoBad.all {s : ByteArray} (h : NoBad s s.size) : s.data.toList.any bad = false := by
  rw [List.any_eq_false]
  intro c hc
  obtain ⟨i, hi, rfl⟩ := List.getElem_of_mem hc
  rw [h i (by simpa using hi) _ (List.getElem?_eq_getElem hi)]
  simp
theorem any_bad_hit {s : ByteArray} {i : Nat} (hi : i < s.size) (hb : bad (s.get! i) = true) : s.data.toList.any bad = true :=
  List.any_eq_true.2 ⟨_, List.mem_of_getElem? (get_some s i hi), hb⟩
end
end Go.Proofs.YtipfccfjniglbaaGreatDoor
namespace Go.Proofs.YtipfccfjniglbaaGreatDoor
section
open Go.RowKit
/-- every old block that 'ok' names is as it was -/
structure Keeps (ok : Nat → Obj → Prop) (w w' : World) : Prop where
  os : w'.os = w.os
  tape : w'.tape = w.tape
  output : w'.output = w.output
  size : w.heap.size ≤ w'.heap.size
  block : ∀ k o, w.heap[k]? = some o → ok k o → w'.heap[k]? = some o
theorem heap_lt {w : World} {k : Nat} {o : Obj} (h : w.heap[k]? = some o) : k < w.heap.size := (Array.getElem?_eq_some_iff.1 h).1
theorem Keeps.refl (ok : Nat → Obj → Prop) (w : World) : Keeps ok w w := ⟨rfl, rfl, rfl, Nat.le_refl _, fun _ _ h _ => h⟩
theorem Keeps.trans {ok : Nat → Obj → Prop} {a b c : World} (h : Keeps ok a b) (k : Keeps ok b c) : Keeps ok a c :=
  ⟨k.os.trans h.os, k.tape.trans h.tape, k.output.trans h.output, Nat.le_trans h.size k.size, fun i o hi hk => k.block i o (h.block i o hi hk) hk⟩
theorem Keeps.mono {ok ok' : Nat → Obj → Prop} {a b : World} (h : Keeps ok a b) (hm : ∀ k o, ok' k o → ok k o) : Keeps ok' a b :=
  ⟨h.os, h.tape, h.output, h.size, fun k o hk hok => h.block k o hk (hm k o hok)⟩
theorem Keeps.boxed {ok : Nat → Obj → Prop} {a b : World} (h : Keeps ok a b) {B : Nat} {t : TypeId} {v : Value} (hb : Boxed a B t v) (hok : ok B (.cells #[v] t (0, 0))) : Boxed b B t v := h.block B _ hb hok
theorem Keeps.alloc {ok : Nat → Obj → Prop} {a b : World} (h : Keeps ok a b) (o : Obj) : Keeps ok a (b.alloc o) :=
  ⟨h.os, h.tape, h.output, Nat.le_trans h.size (by simp), fun k o' hk hok => by
    have := h.block k o' hk hok
    exact (heap_alloc_old b o (heap_lt this)).trans this⟩
theorem Keeps.drewN {ok : Nat → Obj → Prop} {a b : World} (h : Keeps ok a b) (n : Nat) : Keeps ok a (b.drewN n) := ⟨h.os, h.tape, h.output, h.size, h.block⟩
theorem Keeps.drew {ok : Nat → Obj → Prop} {a b : World} (h : Keeps ok a b) : Keeps ok a b.drew := ⟨h.os, h.tape, h.output, h.size, h.block⟩
theorem Keeps.same {ok : Nat → Obj → Prop} {a b c : World} (h : Keeps ok a b) (hs : Same b c) : Keeps ok a c := by
  obtain ⟨n, rfl⟩ := hs
  exact h.drewN n
theorem Keeps.grown {ok : Nat → Obj → Prop} {a b c : World} {row : Option Nat} (h : Keeps ok a b) (hg : b.grownBy c row) (hn : ∀ k o, a.heap[k]? = some o → b.heap[k]? = some o → ok k o → some k ≠ row) : Keeps ok a c :=
  ⟨hg.os.trans h.os, hg.tape.trans h.tape, hg.output.trans h.output, Nat.le_trans h.size hg.size, fun k o hk hok => by
    have hb := h.block k o hk hok
    rw [hg.block k (heap_lt hb) (hn k o hk hb hok)]; exact hb⟩
theorem Keeps.set {ok : Nat → Obj → Prop} {a b : World} (h : Keeps ok a b) (B : Nat) (v : Value) (hn : ∀ o, ¬ ok B o) : Keeps ok a (b.setCell ⟨B, 0, none⟩ v) :=
  h.grown (grownBy_setCell' b B v) (fun k o _ _ hok e => by cases e; exact hn o hok)
theorem Keeps.below {ok : Nat → Obj → Prop} {a b : World} {B : Nat} (h : Keeps ok a b) (hB : B ≤ a.heap.size) (hok : ∀ k o, k < B → ok k o) : Below B a b :=
  ⟨h.os, h.tape, h.output, h.size, fun k hk => by
    have : k < a.heap.size := by omega
    rw [h.block k a.heap[k] (Array.getElem?_eq_getElem this) (hok k _ hk), Array.getElem?_eq_getElem this]⟩
theorem Keeps.of_below {B : Nat} {a b : World} (h : Below B a b) {ok : Nat → Obj → Prop} (hok : ∀ k o, a.heap[k]? = some o → ok k o → k < B) : Keeps ok a b :=
  ⟨h.os, h.tape, h.output, h.size, fun k o hk ho => by rw [h.block k (hok k o hk ho)]; exact hk⟩
/-- not a row of this kind -/
def notRow (e : TypeId) (o : Obj) : Prop := ∀ cs fz, o ≠ .cells cs e fz
theorem notRow_box {e t : TypeId} {v : Value} (h : t ≠ e) : notRow e (.cells #[v] t (0, 0)) := fun cs fz hh => h (by cases hh; rfl)
theorem notRow_row {w : World} {base : Nat} {e : TypeId} {size : Nat} {v : Value} {n : Nat} {xs : List Value} (h : w.ownsRow base e size v n xs) {k : Nat} {o : Obj} (hk : w.heap[k]? = some o) (ho : k < base ∨ notRow e o) : some k ≠ v.ownBlock := by
  intro e1
  rcases h.2 with ⟨rfl, _⟩ | ⟨g, cap, cur, rfl, hb, hg, _⟩
  · simp [Value.ownBlock] at e1
  · simp only [Value.ownBlock, Option.some.injEq] at e1
    subst e1
    rcases ho with ho | ho
    · omega
    · rw [hg] at hk
      cases hk
      exact ho _ _ rfl
theorem ownsRow_keeps {ok : Nat → Obj → Prop} {a b : World} {base : Nat} {e : TypeId} {size : Nat} {v : Value} {n : Nat} {xs : List Value} (h : a.ownsRow base e size v n xs) (hk : Keeps ok a b) (hok : ∀ k cs, v.ownBlock = some k → ok k (.cells cs e (0, 0))) : b.ownsRow base e size v n xs := by
  refine ⟨h.1, ?_⟩
  rcases h.2 with h2 | ⟨g, cap, cur, rfl, hb, hg, h3⟩
  · exact .inl h2
  · exact .inr ⟨g, cap, cur, rfl, hb, hk.block g _ hg (hok g cur rfl), h3⟩
end
end Go.Proofs.YtipfccfjniglbaaGreatDoor
namespace Go.Proofs.YtipfccfjniglbaaGreatDoor
section
/-- the text of these bytes -/
def bs (l : List UInt8) : ByteArray := ⟨l.toArray⟩
@[simp] theorem bs_toList (l : List UInt8) : (bs l).data.toList = l := rfl
@[simp] theorem bs_size (l : List UInt8) : (bs l).size = l.length := rfl
theorem bs_of (s : ByteArray) : bs s.data.toList = s := by cases s; rfl
theorem bs_tl (l : List UInt8) : (bs l).toList = l := by rw [Lib.toList_data]; rfl
theorem ba_ext {a b : ByteArray} (h : a.data.toList = b.data.toList) : a = b := by rw [← bs_of a, ← bs_of b, h]
theorem extract_bs (s : ByteArray) (a b : Nat) : s.extract a b = bs ((s.data.toList.drop a).take (b - a)) := ba_ext (Lib.extract_data s a b)
theorem append_bs (a b : ByteArray) : a ++ b = bs (a.data.toList ++ b.data.toList) := by
  apply ba_ext
  rw [ByteArray.data_append, Array.toList_append]
  rfl
theorem extract_head (s : ByteArray) (b : Nat) : s.extract 0 b = bs (s.data.toList.take b) := by rw [extract_bs]; simp
theorem extract_tail (s : ByteArray) (a : Nat) : s.extract a s.size = bs (s.data.toList.drop a) := by
  rw [extract_bs, List.take_of_length_le]
  rw [List.length_drop, Lib.size_eq]
  exact Nat.le_refl _
theorem isEmpty_iff (s : ByteArray) : s.toList.isEmpty = true ↔ s.data.toList = [] := by rw [Lib.toList_data, List.isEmpty_iff]

theorem byte_test (s : ByteArray) (k : Nat) (h : k < s.size) (c : Nat) (hc : c < 256) : ((((s[k]'h).toNat : Nat) : Int) == (c : Int)) = decide (s.data.toList[k]? = some (UInt8.ofNat c)) := by
  rw [Lib.data_getElem? s k h]
  have hcc : (UInt8.ofNat c).toNat = c := by simp; omega
  by_cases e : s[k] = UInt8.ofNat c
  · rw [e, hcc]
    simp
  · have h1 : ¬ (s[k].toNat = c) := fun hh => e (UInt8.toNat_inj.1 (by rw [hcc]; exact hh))
    rw [decide_eq_false (by simpa using e)]
    rw [beq_eq_false_iff_ne]
    omega
theorem byte_eq {s : ByteArray} {k : Nat} (h : k < s.size) (c : Nat) (hc : c < 256) (he : s.data.toList[k]? = some (UInt8.ofNat c)) : ((((s[k]'h).toNat : Nat) : Int) == (c : Int)) = true := by
  rw [byte_test s k h c hc]; exact decide_eq_true he
theorem byte_ne {s : ByteArray} {k : Nat} (h : k < s.size) (c : Nat) (hc : c < 256) (he : ¬ s.data.toList[k]? = some (UInt8.ofNat c)) : ((((s[k]'h).toNat : Nat) : Int) == (c : Int)) = false := by
  rw [byte_test s k h c hc]; exact decide_eq_false he
/-- the place behind the last slash among the first k bytes; 0: there is none -/
def slashAt (l : List UInt8) : Nat → Nat
  | 0 => 0
  | k + 1 => if l[k]? = some 47 then k + 1 else slashAt l k
def slashPos (l : List UInt8) : Nat := slashAt l l.length
theorem slashAt_le (l : List UInt8) : ∀ k, slashAt l k ≤ k
  | 0 => Nat.le_refl _
  | k + 1 => by
    unfold slashAt
    split
    · exact Nat.le_refl _
    · exact Nat.le_succ_of_le (slashAt_le l k)
theorem slashPos_le (l : List UInt8) : slashPos l ≤ l.length := slashAt_le l _
theorem lastIdx_eq (s : ByteArray) : ∀ k, k ≤ s.size → Lib.lastIdx s 47 k = (slashAt s.data.toList k : Int) - 1
  | 0, _ => rfl
  | k + 1, h => by
    have hk : k < s.size := h
    have e : s.data.toList[k]? = some s.data[k]! := by
      rw [Lib.data_getElem? s k hk]
      congr 1
      have hk' : k < s.data.size := hk
      rw [getElem!_pos s.data k hk']
      rfl
    unfold Lib.lastIdx slashAt
    rw [e]
    by_cases hc : s.data[k]! = 47
    · rw [hc, if_pos rfl, if_pos (by rfl)]
      omega
    · have h1 : ¬ ((s.data[k]!.toNat : Int) = 47) := fun hh => hc (UInt8.toNat_inj.1 (by show _ = 47; omega))
      rw [if_neg h1, if_neg (by simpa using hc)]
      exact lastIdx_eq s k (Nat.le_of_lt hk)
theorem lastByte_eq (s : ByteArray) : Lib.lastIndexByte s 47 = (slashPos s.data.toList : Int) - 1 := by
  unfold Lib.lastIndexByte slashPos
  rw [lastIdx_eq s _ (Nat.le_refl _), Lib.size_eq]
def parent (l : List UInt8) : List UInt8 := l.take (slashPos l - 1)
def lastName (l : List UInt8) : List UInt8 := l.drop (slashPos l)
def joinP (a b : List UInt8) : List UInt8 := if a = [] then b else a ++ 47 :: b
def belowP (d p : List UInt8) : Bool := if d = [] then !p.isEmpty else (d ++ [47]).isPrefixOf p

/-- the first slash from a place on, within so many bytes -/
def firstFrom (l : List UInt8) : Nat → Nat → Option Nat
  | _, 0 => none
  | i, f + 1 => if l[i]? = some 47 then some i else firstFrom l (i + 1) f
theorem first_some {l : List UInt8} : ∀ {f i j : Nat}, firstFrom l i f = some j → i ≤ j ∧ j < i + f ∧ l[j]? = some 47 ∧ ∀ k, i ≤ k → k < j → ¬ l[k]? = some 47
  | 0, _, _, h => by cases h
  | f + 1, i, j, h => by
    unfold firstFrom at h
    split at h
    · rename_i hc
      cases h
      exact ⟨Nat.le_refl _, by omega, hc, fun k a b => by omega⟩
    · rename_i hc
      obtain ⟨a, b, c, d⟩ := first_some h
      exact ⟨by omega, by omega, c, fun k x y => by
        rcases (by omega : k = i ∨ i + 1 ≤ k) with rfl | h2
        · exact hc
        · exact d k h2 y⟩
theorem first_none {l : List UInt8} : ∀ {f i : Nat}, firstFrom l i f = none → ∀ k, i ≤ k → k < i + f → ¬ l[k]? = some 47
  | 0, _, _ => fun k a b => by omega
  | f + 1, i, h => by
    unfold firstFrom at h
    split at h
    · cases h
    · rename_i hc
      intro k a b
      rcases (by omega : k = i ∨ i + 1 ≤ k) with rfl | h2
      · exact hc
      · exact first_none h k h2 (by omega)
theorem first_mk {l : List UInt8} : ∀ {f i j : Nat}, i ≤ j → j < i + f → l[j]? = some 47 → (∀ k, i ≤ k → k < j → ¬ l[k]? = some 47) → firstFrom l i f = some j
  | 0, i, j, a, b, _, _ => by omega
  | f + 1, i, j, a, b, c, d => by
    unfold firstFrom
    rcases (by omega : j = i ∨ i + 1 ≤ j) with rfl | h2
    · rw [if_pos c]
    · rw [if_neg (d i (Nat.le_refl _) h2)]
      exact first_mk h2 (by omega) c (fun k x y => d k (by omega) y)
theorem first_mk_none {l : List UInt8} : ∀ {f i : Nat}, (∀ k, i ≤ k → k < i + f → ¬ l[k]? = some 47) → firstFrom l i f = none
  | 0, i, _ => rfl
  | f + 1, i, d => by
    unfold firstFrom
    rw [if_neg (d i (Nat.le_refl _) (by omega))]
    exact first_mk_none (fun k x y => d k (by omega) (by omega))
/-- what IndexByte answers of the piece that Split looks at -/
theorem index_first (l : List UInt8) (h : 100 < l.length) :
    Lib.indexByte ((l.drop (l.length - 101)).take (l.length - 1 - (l.length - 101))) 47 = (match firstFrom l (l.length - 101) 100 with | none => -1 | some j => ((j - (l.length - 101) : Nat) : Int)) := by
  have hget : ∀ k, k < 100 → ((l.drop (l.length - 101)).take (l.length - 1 - (l.length - 101)))[k]? = l[(l.length - 101) + k]? := by
    intro k hk
    rw [List.getElem?_take_of_lt (by omega), List.getElem?_drop]
  have hlen : ((l.drop (l.length - 101)).take (l.length - 1 - (l.length - 101))).length = 100 := by simp; omega
  generalize hp : (l.drop (l.length - 101)).take (l.length - 1 - (l.length - 101)) = p at *
  have hge := Lib.indexByte_ge p 47
  rcases Int.lt_or_le (Lib.indexByte p 47) 0 with hlt | hle
  · have hm : Lib.indexByte p 47 = -1 := by omega
    rw [hm, first_mk_none]
    intro k a b hc
    refine Lib.indexByte_none hm (k - (l.length - 101)) ?_
    rw [hget _ (by omega), show l.length - 101 + (k - (l.length - 101)) = k from by omega]
    exact hc
  · obtain ⟨o, ho⟩ := Int.eq_ofNat_of_zero_le hle
    obtain ⟨h1, h2⟩ := Lib.indexByte_some (o := o) ho
    have ho100 : o < 100 := by
      rw [← hlen]
      exact (List.getElem?_eq_some_iff.1 h1).1
    rw [ho, first_mk (j := l.length - 101 + o) (by omega) (by omega)]
    · simp
    · rw [← hget o ho100]; exact h1
    · intro k a b hc
      refine h2 (k - (l.length - 101)) (by omega) ?_
      rw [hget _ (by omega), show l.length - 101 + (k - (l.length - 101)) = k from by omega]
      exact hc
def splitP (l : List UInt8) : List UInt8 × List UInt8 × Nat :=
  if l.length ≤ 100 then ([], l, 0) else
  match firstFrom l (l.length - 101) 100 with
  | none => ([], [], 9)
  | some i => if i < 1 ∨ 155 < i then ([], [], 9) else (l.take i, l.drop (i + 1), 0)

def white : List UInt8 := [46, 119, 104, 46]
def nameOk (l : List UInt8) : Bool := !l.isEmpty && decide (l.length ≤ 96) && !l.any bad && !(l == [46]) && !(l == [46, 46]) && !(Lib.hasPrefix l white)
def nameNo (l : List UInt8) : Nat := if nameOk l then 0 else 8

/-- what stands ahead of the first slash, what behind it, and whether there is one -/
def cutP : List UInt8 → List UInt8 × List UInt8 × Bool
  | [] => ([], [], false)
  | c :: t => if c = 47 then ([], t, true) else (c :: (cutP t).1, (cutP t).2.1, (cutP t).2.2)
theorem cutP_none : ∀ {l : List UInt8}, Lib.indexByte l 47 = -1 → cutP l = (l, [], false)
  | [], _ => rfl
  | c :: t, h => by
    unfold Lib.indexByte at h
    by_cases hc : c = 47
    · subst hc
      simp at h
    · have hc' : (c == 47) = false := by simpa using hc
      rw [hc'] at h
      simp only [Bool.false_eq_true, if_false] at h
      have ht : Lib.indexByte t 47 = -1 := by
        have := Lib.indexByte_ge t 47
        split at h
        · rename_i h1; simpa using h1
        · omega
      unfold cutP
      rw [if_neg hc, cutP_none ht]
theorem cutP_some : ∀ {l : List UInt8} {i : Nat}, Lib.indexByte l 47 = i → cutP l = (l.take i, l.drop (i + 1), true)
  | [], i, h => by unfold Lib.indexByte at h; omega
  | c :: t, i, h => by
    unfold Lib.indexByte at h
    by_cases hc : c = 47
    · subst hc
      simp at h
      obtain rfl : i = 0 := by omega
      unfold cutP
      simp
    · have hc' : (c == 47) = false := by simpa using hc
      rw [hc'] at h
      simp only [Bool.false_eq_true, if_false] at h
      have hg := Lib.indexByte_ge t 47
      split at h
      · omega
      · rename_i h1
        have h1' : ¬ Lib.indexByte t 47 = -1 := by simpa using h1
        obtain ⟨k, hk⟩ := Int.eq_ofNat_of_zero_le (show 0 ≤ Lib.indexByte t 47 by omega)
        obtain rfl : i = k + 1 := by omega
        unfold cutP
        rw [if_neg hc, cutP_some hk]
        simp
theorem cutP_shorter : ∀ (l : List UInt8), (cutP l).2.2 = true → (cutP l).2.1.length < l.length
  | [], h => by cases h
  | c :: t, h => by
    unfold cutP at h ⊢
    split
    · simp
    · rename_i hc
      rw [if_neg hc] at h
      have := cutP_shorter t h
      simp; omega
theorem cutP_le : ∀ (l : List UInt8), (cutP l).1.length ≤ l.length ∧ (cutP l).2.1.length ≤ l.length
  | [] => ⟨Nat.le_refl _, Nat.le_refl _⟩
  | c :: t => by
    have := cutP_le t
    unfold cutP
    split
    · simp
    · simp; omega

/-- the pieces between the slashes, the empty ones too -/
def pcs : List UInt8 → List (List UInt8)
  | [] => [[]]
  | c :: t => if c = 47 then [] :: pcs t else match pcs t with
    | [] => [[c]]
    | p :: ps => (c :: p) :: ps
theorem pcs_cons (c : UInt8) (t : List UInt8) : pcs (c :: t) = if c = 47 then [] :: pcs t else match pcs t with | [] => [[c]] | p :: ps => (c :: p) :: ps := rfl
theorem cutP_cons (c : UInt8) (t : List UInt8) : cutP (c :: t) = if c = 47 then ([], t, true) else (c :: (cutP t).1, (cutP t).2.1, (cutP t).2.2) := rfl
theorem pcs_cut : ∀ (l : List UInt8), pcs l = (cutP l).1 :: (if (cutP l).2.2 then pcs (cutP l).2.1 else [])
  | [] => rfl
  | c :: t => by
    rw [pcs_cons, cutP_cons]
    by_cases h : c = 47
    · rw [if_pos h, if_pos h]
      simp
    · rw [if_neg h, if_neg h, pcs_cut t]
theorem pcs_ne (l : List UInt8) : pcs l ≠ [] := by rw [pcs_cut]; simp
theorem pcs_length : ∀ (l : List UInt8), (pcs l).length ≤ l.length + 1
  | [] => Nat.le_refl _
  | c :: t => by
    have := pcs_length t
    unfold pcs
    split
    · simp; omega
    · split
      · simp
      · rename_i p ps h; rw [h] at this; simp at this ⊢; omega
theorem pcs_mem_length : ∀ (l : List UInt8), ∀ p ∈ pcs l, p.length ≤ l.length
  | [], p, h => by simp [pcs] at h; subst h; exact Nat.le_refl _
  | c :: t, p, h => by
    unfold pcs at h
    split at h
    · rcases List.mem_cons.1 h with rfl | h
      · simp
      · have := pcs_mem_length t p h; simp; omega
    · split at h
      · simp at h; subst h; simp
      · rename_i q ps hq
        rcases List.mem_cons.1 h with rfl | h
        · have := pcs_mem_length t q (by rw [hq]; simp); simp; omega
        · have := pcs_mem_length t p (by rw [hq]; simp [h]); simp; omega
/-- the pieces, the empty ones left out -/
def pieces (l : List UInt8) : List (List UInt8) := (pcs l).filter (fun p => !p.isEmpty)
end
end Go.Proofs.YtipfccfjniglbaaGreatDoor
namespace Go.Proofs.YtipfccfjniglbaaGreatDoor
section
open Go.RowKit

/-- THE CONTRACT OF AN ITERATOR THAT HANDS OUT THE LIST L: whatever loop l it is handed, whatever invariant J (between two rounds) and Jx (where a round has said no more) that abides the turn of blocks that are no cells and were laid since it was called. -/
def SeqL {α : Type} (P : Program) (g : Nat) (lb : Array Value) (encs : α → Array Value) (Kp : World → World → Prop) (L : List α) (w : World) : Prop :=
  ∀ (l : Nat) (J Jx : List α → World → Prop) (W : World), Below w.heap.size w W → OwnFrom W.heap.size J → OwnFrom W.heap.size Jx →
    (∀ pre x rest W1, L = pre ++ x :: rest → J pre W1 → YieldAt Fence.wide 0 P l (encs x) W1 fun e W' =>
      KeepsFrom W.heap.size W1 W' ∧ ((e = .returned (.bool true) ∧ J (pre ++ [x]) W' ∧ Kp W1 W') ∨ (e = .returned (.bool false) ∧ Jx (pre ++ [x]) W'))) →
    J [] W →
    CallsIn Fence.wide 0 P g (#[.func (.yield l) #[] #[]] ++ lb) W fun e W' => (∃ v, e = .returned v) ∧ (J L W' ∨ ∃ pre x rest, L = pre ++ x :: rest ∧ Jx (pre ++ [x]) W')

theorem SeqL.later {α : Type} {P : Program} {g : Nat} {lb : Array Value} {encs : α → Array Value} {Kp : World → World → Prop} {L : List α} {w w' : World}
    (h : SeqL P g lb encs Kp L w) (hb : Below w.heap.size w w') : SeqL P g lb encs Kp L w' :=
  fun l J Jx W hW hJ hJx hY h0 => h l J Jx W (hb.trans (hW.mono hb.size)) hJ hJx hY h0

/-- how the body of a round may be left -/
def roundEnd {α : Type} (B : Nat) (Kp : World → World → Prop) (I : List α → World → Prop) (Ix : Code → List α → World → Prop) (xs : List α) (W : World) : Exit → Act → World → Prop :=
  ownPostG B Kp I Ix xs W

theorem KeepsFrom.putObj {B l : Nat} {W : World} (o : Obj) (h : l < B) : KeepsFrom B W (W.putObj l o) := KeepsFrom.of_grownBy (grownBy_putObj' W l o) (fun j e => by cases e; exact h)
theorem KeepsFrom.more {B B' : Nat} {W W' : World} (h : KeepsFrom B W W') (hB : B ≤ B') : KeepsFrom B' W W' := ⟨h.size, fun k o hk h1 h2 => h.same k o (Nat.le_trans hB hk) h1 h2⟩
theorem OwnFrom.more {β : Type} {B B' : Nat} {I : β → World → Prop} (h : OwnFrom B I) (hB : B ≤ B') : OwnFrom B' I := fun s W W' row hs hg hr => h s W W' row hs hg (fun r e => ⟨Nat.le_trans hB (hr r e).1, (hr r e).2⟩)
theorem RoundIn.inRound {F : Fence} {m : Nat} {P : Program} {l : Nat} {f : FuncId} {tmps : Array Value} {assign body : Code} {w : World} {R : Ending → World → Prop} (l' : Nat) (h : RoundIn F m P l f tmps assign body w R) : RoundIn (F.inRound l') m P l f tmps assign body w R := h

variable {P : Program}

theorem wpIn_range {α : Type} {g : Operand} {ps : Array Tmp} {assign body : Code} {Q : Exit → Act → World → Prop} {a : Act} {w : World}
    {gf : Nat} {lb : Array Value} (hg : a.eval g = .func (.func gf) #[] lb) (eg : ∀ args w, (callFunc gf args).run P w = .ok (.enter gf args) w)
    {encs : α → Array Value} {Kp : World → World → Prop} {L : List α} {w0 : World} (hseq : SeqL P gf lb encs Kp L w0)
    (hKt : ∀ {A B C : World}, Kp A B → Kp B C → Kp A C) (hKb : ∀ (W : World) (l : Nat) (o o' : Obj), w.heap.size ≤ l → W.heap[l]? = some o → o.isCells = false → o.isWalk = false → Kp W (W.putObj l o')) (hb0 : Below w0.heap.size w0 w) (hps : ∀ x, (encs x).size = ps.size)
    (I : List α → World → Prop) (Ix : Code → List α → World → Prop) (hI : OwnFrom w.heap.size I) (hIx : ∀ c, OwnFrom w.heap.size (Ix c)) (h0 : I [] w)
    (Ax : α → Act → World → Prop) (hAx : ∀ x a', OwnFrom w.heap.size (fun (_ : Unit) W => Ax x a' W))
    (hassign : ∀ (l : Nat) (pre : List α) (x : α) (W : World) (K : Act → World → Prop), I pre W → (∀ a' W', KeepsFrom w.heap.size W W' → Kp W W' → I pre W' → Ax x a' W' → K a' W') →
      assign.wpIn (Fence.wide.inRound l) 0 P (Exit.then K (fun _ _ _ => False)) { tmps := (ps.zip (encs x)).foldl (fun t (p, v) => t.setIfInBounds p v) a.tmps, defers := [] } W)
    (hbody : ∀ (l : Nat) (pre : List α) (x : α) (rest : List α) (a' : Act) (W : World), w.heap.size ≤ l → (∃ r, W.heap[l]? = some (.loop r)) → L = pre ++ x :: rest → I pre W → Ax x a' W →
      body.wpIn (Fence.wide.inRound l) 0 P (ownPostG w.heap.size Kp I Ix (pre ++ [x]) W) a' W)
    (hdone : ∀ (D : Nat) (W : World), w.heap.size ≤ D → I L W → W.heap[D]? = some (.deferred (some [])) → Q .normal { a with defers := { target := .collected D, args := #[] } :: a.defers } W)
    (hstop : ∀ (D : Nat) (c : Code) (pre : List α) (x : α) (rest : List α) (W : World), w.heap.size ≤ D → L = pre ++ x :: rest → Ix c (pre ++ [x]) W → W.heap[D]? = some (.deferred (some [])) →
      c.wpIn Fence.wide 0 P Q { a with defers := { target := .collected D, args := #[] } :: a.defers } W) :
    (Code.rangeFunc g ps assign body).wpIn Fence.wide 0 P Q a w := by
  refine wpIn_rangeFunc ?_
  intro fn hfn
  show ∃ l mark w₁ d w₁' f args w₂, (Instr.enterLoop fn a.tmps ps assign body none).run P w = .ok (l, mark) w₁ ∧ _
  obtain ⟨rec, hrec⟩ : ∃ rec : LoopState → Option Code → Loop, rec = fun st pe => { state := st, pending := pe, fn, tmps := a.tmps, params := ps, assign, body, defers := w.heap.size } := ⟨_, rfl⟩
  obtain ⟨W1, hW1⟩ : ∃ W1, (w.alloc (.deferred (some []))).alloc (.loop (rec .ready none)) = W1 := ⟨_, rfl⟩
  have hsz : W1.heap.size = w.heap.size + 2 := by rw [← hW1]; simp
  have hL1 : W1.heap[w.heap.size + 1]? = some (.loop (rec .ready none)) := by
    rw [← hW1]; have := World.alloc_heap_new (w.alloc (.deferred (some []))) (.loop (rec .ready none)); rwa [World.size_alloc] at this
  have hK1 : W1.heap[w.heap.size]? = some (.deferred (some [])) := by
    rw [← hW1]; exact (Below.heap_alloc _ _ _ (by simp)).trans (World.alloc_heap_new w _)
  have hI1 : I [] W1 := by rw [← hW1]; exact hI.alloc _ (hI.alloc _ h0)
  have hb1 : Below w0.heap.size w0 W1 := by
    rw [← hW1]; exact hb0.trans ((((Below.refl _ w).alloc (Nat.le_refl _) _).alloc (by simp) _).mono hb0.size)
  refine ⟨w.heap.size + 1, [{ target := .collected w.heap.size, args := #[] }], W1, { target := .fn (.func gf) lb, args := #[.func (.yield (w.heap.size + 1)) #[] #[]] }, W1, gf,
    #[.func (.yield (w.heap.size + 1)) #[] #[]] ++ lb, W1, ?_, ?_, ?_, ?_, fun h => absurd h (by simp [Fence.wide]), ?_⟩
  · rw [← hW1, hrec]; exact run_enterLoop_outer _ _ _ _ _
  · simp only [resolve, hg]
    simp [go_sem]
  · intro f' hf'; trivial
  · simp [invoke, go_sem, eg]
  · have two : ∀ {A B : World} {row : Option Nat} {k : Nat} {o : Obj}, A.grownBy B row → (∀ r, row = some r → W1.heap.size ≤ r ∧ ∃ o : Obj, A.heap[r]? = some o ∧ o.isCells = false) → k < w.heap.size + 2 → A.heap[k]? = some o → B.heap[k]? = some o := by
      intro A B row k o hg' hr hk h
      refine (hg'.block k (Array.getElem?_eq_some_iff.1 h).1 (fun e => ?_)).trans h
      have := (hr k e.symm).1
      omega
    have wide : ∀ {A : World} {row : Option Nat}, (∀ r, row = some r → W1.heap.size ≤ r ∧ ∃ o : Obj, A.heap[r]? = some o ∧ o.isCells = false) → (∀ r, row = some r → w.heap.size ≤ r ∧ ∃ o : Obj, A.heap[r]? = some o ∧ o.isCells = false) :=
      fun hr r e => ⟨by have := (hr r e).1; omega, (hr r e).2⟩
    refine (hseq (w.heap.size + 1)
      (fun pre W => I pre W ∧ W.heap[w.heap.size + 1]? = some (.loop (rec .ready none)) ∧ W.heap[w.heap.size]? = some (.deferred (some [])))
      (fun pre W => ∃ c, Ix c pre W ∧ W.heap[w.heap.size + 1]? = some (.loop (rec .done (some c))) ∧ W.heap[w.heap.size]? = some (.deferred (some [])))
      W1 hb1
      (fun s A B row hs hg' hr => ⟨hI s A B row hs.1 hg' (wide hr), two hg' hr (by omega) hs.2.1, two hg' hr (by omega) hs.2.2⟩)
      (fun s A B row hs hg' hr => by
        obtain ⟨c, hc, hl, hk⟩ := hs
        exact ⟨c, hIx c s A B row hc hg' (wide hr), two hg' hr (by omega) hl, two hg' hr (by omega) hk⟩)
      ?_ ⟨hI1, hL1, hK1⟩).mono ?_
    · rintro pre x rest W hL ⟨hi, hl, hk⟩
      have hlt : w.heap.size + 1 < W.heap.size := (Array.getElem?_eq_some_iff.1 hl).1
      have hy := run_yield (P := P) (args := encs x) hl (by rw [hrec]; exact hps x)
      rw [hrec] at hy
      refine ⟨fn, _, assign, body, hy, roundIn_of_wpIn hfn (hassign _ pre x W _ hi ?_)⟩
      clear hy
      intro a' Wa hkfa hkpa hia hax
      replace hl := hkfa.same _ _ (by omega) hl rfl
      replace hk := hkfa.same _ _ (Nat.le_refl _) hk rfl
      replace hlt : w.heap.size + 1 < Wa.heap.size := (Array.getElem?_eq_some_iff.1 hl).1
      refine ⟨_, run_beginRound hl (by rw [hrec]), ?_⟩
      have hl2 : (Wa.putObj (w.heap.size + 1) (.loop { rec .ready none with state := .busy })).heap[w.heap.size + 1]? = some (.loop { rec .ready none with state := .busy }) := World.putObj_heap_same hlt
      have hk2 : (Wa.putObj (w.heap.size + 1) (.loop { rec .ready none with state := .busy })).heap[w.heap.size]? = some (.deferred (some [])) := (World.putObj_heap_other (by omega)).trans hk
      have hw2 : Kp Wa (Wa.putObj (w.heap.size + 1) (.loop { rec .ready none with state := .busy })) := hKb _ _ _ _ (by omega) hl rfl rfl
      refine wpIn_mono (hbody _ pre x rest a' _ (by omega) ⟨_, hl2⟩ hL (hI.putObj _ hia (by omega) hl rfl) ((hAx x a').putObj (s := ()) _ hax (by omega) hl rfl)) ?_
      have fin : ∀ (jump : Option Code) (W3 : World), KeepsFrom w.heap.size (Wa.putObj (w.heap.size + 1) (.loop { rec .ready none with state := .busy })) W3 →
          (Instr.endRound (w.heap.size + 1) jump).run P W3 = .ok (.bool jump.isNone) (W3.putObj (w.heap.size + 1) (.loop (rec (if jump.isNone then .ready else .done) jump))) ∧
          W3.heap[w.heap.size + 1]? = some (.loop { rec .ready none with state := .busy }) ∧
          (W3.putObj (w.heap.size + 1) (.loop (rec (if jump.isNone then .ready else .done) jump))).heap[w.heap.size + 1]? = some (.loop (rec (if jump.isNone then .ready else .done) jump)) ∧
          (W3.putObj (w.heap.size + 1) (.loop (rec (if jump.isNone then .ready else .done) jump))).heap[w.heap.size]? = some (.deferred (some [])) := fun jump W3 hk3 => by
        have hl3 := hk3.same _ _ (by omega) hl2 rfl
        have := run_endRound (P := P) jump hl3
        rw [hrec] at this ⊢
        exact ⟨this, by rw [hrec] at hl3; exact hl3, World.putObj_heap_same (Array.getElem?_eq_some_iff.1 hl3).1, (World.putObj_heap_other (by omega)).trans (hk3.same _ _ (Nat.le_refl _) hk2 rfl)⟩
      have hkey : ∀ (W3 : World) (o : Obj), KeepsFrom w.heap.size (Wa.putObj (w.heap.size + 1) (.loop { rec .ready none with state := .busy })) W3 → KeepsFrom W1.heap.size W (W3.putObj (w.heap.size + 1) o) := fun W3 o h3 =>
        (((KeepsFrom.more hkfa (by omega)).trans (KeepsFrom.putObj _ (by omega))).trans (KeepsFrom.more h3 (by omega))).trans (KeepsFrom.putObj _ (by omega))
      rintro e a3 W3 hp
      cases e with
      | normal =>
        obtain ⟨hk3, hkp3, hi3⟩ := hp
        obtain ⟨hr, hl3, hl4, hk4⟩ := fin none W3 hk3
        exact ⟨_, _, hr, hkey W3 _ hk3, .inl ⟨rfl, ⟨hI.putObj _ hi3 (by omega) hl3 rfl, hl4, hk4⟩, hKt hkpa (hKt (hKt hw2 hkp3) (hKb _ _ _ _ (by omega) hl3 rfl rfl))⟩⟩
      | ret =>
        obtain ⟨hk3, hi3⟩ := hp
        obtain ⟨hr, hl3, hl4, hk4⟩ := fin (some .ret) W3 hk3
        exact ⟨_, _, hr, hkey W3 _ hk3, .inr ⟨rfl, .ret, (hIx _).putObj _ hi3 (by omega) hl3 rfl, hl4, hk4⟩⟩
      | exit id =>
        obtain ⟨hk3, hi3⟩ := hp
        obtain ⟨hr, hl3, hl4, hk4⟩ := fin (some (.exit id)) W3 hk3
        exact ⟨_, _, hr, hkey W3 _ hk3, .inr ⟨rfl, .exit id, (hIx _).putObj _ hi3 (by omega) hl3 rfl, hl4, hk4⟩⟩
      | goto t =>
        obtain ⟨hk3, hi3⟩ := hp
        obtain ⟨hr, hl3, hl4, hk4⟩ := fin (some (.goto t)) W3 hk3
        exact ⟨_, _, hr, hkey W3 _ hk3, .inr ⟨rfl, .goto t, (hIx _).putObj _ hi3 (by omega) hl3 rfl, hl4, hk4⟩⟩
      | panic ch => exact hp.elim
      | outgrown => exact hp.elim
    · rintro e W2 ⟨⟨v, rfl⟩, (⟨hi, hl, hk⟩ | ⟨pre, x, rest, hL, c, hi, hl, hk⟩)⟩
      · exact ⟨none, _, by have := run_endLoop (P := P) hl (by rw [hrec]; simp); rw [hrec] at this; exact this, hdone _ _ (Nat.le_refl _) (hI.putObj _ hi (by omega) hl rfl) ((World.putObj_heap_other (by omega)).trans hk)⟩
      · exact ⟨some c, _, by have := run_endLoop (P := P) hl (by rw [hrec]; simp); rw [hrec] at this; exact this, hstop _ c pre x rest _ (Nat.le_refl _) hL ((hIx c).putObj _ hi (by omega) hl rfl) ((World.putObj_heap_other (by omega)).trans hk)⟩

/-- The same where the loop's variables lie in slots: the act behind the assignment is known ahead. -/
theorem wpIn_range_flat {α : Type} {g : Operand} {ps : Array Tmp} {assign body : Code} {Q : Exit → Act → World → Prop} {a : Act} {w : World}
    {gf : Nat} {lb : Array Value} (hg : a.eval g = .func (.func gf) #[] lb) (eg : ∀ args w, (callFunc gf args).run P w = .ok (.enter gf args) w)
    {encs : α → Array Value} {Kp : World → World → Prop} {L : List α} {w0 : World} (hseq : SeqL P gf lb encs Kp L w0)
    (hKr : ∀ W, Kp W W) (hKt : ∀ {A B C : World}, Kp A B → Kp B C → Kp A C) (hKb : ∀ (W : World) (l : Nat) (o o' : Obj), w.heap.size ≤ l → W.heap[l]? = some o → o.isCells = false → o.isWalk = false → Kp W (W.putObj l o')) (hb0 : Below w0.heap.size w0 w) (hps : ∀ x, (encs x).size = ps.size)
    (I : List α → World → Prop) (Ix : Code → List α → World → Prop) (hI : OwnFrom w.heap.size I) (hIx : ∀ c, OwnFrom w.heap.size (Ix c)) (h0 : I [] w) (a₁ : α → Act)
    (hassign : ∀ (l : Nat) (x : α) (W : World) (K : Act → World → Prop), K (a₁ x) W →
      assign.wpIn (Fence.wide.inRound l) 0 P (Exit.then K (fun _ _ _ => False)) { tmps := (ps.zip (encs x)).foldl (fun t (p, v) => t.setIfInBounds p v) a.tmps, defers := [] } W)
    (hbody : ∀ (l : Nat) (pre : List α) (x : α) (rest : List α) (W : World), w.heap.size ≤ l → (∃ r, W.heap[l]? = some (.loop r)) → L = pre ++ x :: rest → I pre W →
      body.wpIn (Fence.wide.inRound l) 0 P (ownPostG w.heap.size Kp I Ix (pre ++ [x]) W) (a₁ x) W)
    (hdone : ∀ (D : Nat) (W : World), w.heap.size ≤ D → I L W → W.heap[D]? = some (.deferred (some [])) → Q .normal { a with defers := { target := .collected D, args := #[] } :: a.defers } W)
    (hstop : ∀ (D : Nat) (c : Code) (pre : List α) (x : α) (rest : List α) (W : World), w.heap.size ≤ D → L = pre ++ x :: rest → Ix c (pre ++ [x]) W → W.heap[D]? = some (.deferred (some [])) →
      c.wpIn Fence.wide 0 P Q { a with defers := { target := .collected D, args := #[] } :: a.defers } W) :
    (Code.rangeFunc g ps assign body).wpIn Fence.wide 0 P Q a w :=
  wpIn_range hg eg hseq (fun h k => hKt h k) hKb hb0 hps I Ix hI hIx h0 (fun x a' _ => a' = a₁ x) (fun _ _ _ _ _ _ hs _ _ => hs)
    (fun l _ x W K hi h => hassign l x W K (h _ _ (KeepsFrom.refl _ _) (hKr _) hi rfl))
    (fun l pre x rest a' W hl hr hL hi ha => by subst ha; exact hbody l pre x rest W hl hr hL hi) hdone hstop

/-- EVERY ROW OF CELLS OF TYPE T LIES AS IT LAY (T: a type that the loop's body never stores). -/
def KeepsT (T : TypeId) (W W' : World) : Prop := ∀ (k : Nat) (cs : Array Value) (fz : Nat × Nat), W.heap[k]? = some (.cells cs T fz) → W'.heap[k]? = some (.cells cs T fz)
theorem KeepsT.refl {T : TypeId} (W : World) : KeepsT T W W := fun _ _ _ h => h
theorem KeepsT.trans {T : TypeId} {A B C : World} (h : KeepsT T A B) (k : KeepsT T B C) : KeepsT T A C := fun i cs fz hi => k i cs fz (h i cs fz hi)
theorem KeepsT.alloc {T : TypeId} (W : World) (o : Obj) : KeepsT T W (W.alloc o) := fun k _ _ h => (Below.heap_alloc W o k (Array.getElem?_eq_some_iff.1 h).1).trans h
theorem KeepsT.drew {T : TypeId} (W : World) : KeepsT T W W.drew := fun _ _ _ h => h
theorem KeepsT.drewN {T : TypeId} (W : World) (n : Nat) : KeepsT T W (W.drewN n) := fun _ _ _ h => h
theorem KeepsT.putObj {T : TypeId} {W : World} {l : Nat} {o : Obj} (o' : Obj) (hl : W.heap[l]? = some o) (ho : o.isCells = false) : KeepsT T W (W.putObj l o') := fun k cs fz h => by
  by_cases e : k = l
  · subst e; rw [hl] at h; cases h; cases ho
  · exact (World.putObj_heap_other e).trans h
theorem KeepsT.setCell {T : TypeId} {W : World} {p : Addr} (v : Value) (h : ∀ cs fz, W.heap[p.block]? ≠ some (.cells cs T fz)) : KeepsT T W (W.setCell p v) := fun k cs fz hk => by
  by_cases e : k = p.block
  · subst e; exact absurd hk (h cs fz)
  · exact (Below.heap_setCell W p v k e).trans hk
theorem KeepsT.grown {T : TypeId} {W W' : World} {row : Option Nat} (hg : W.grownBy W' row) (h : ∀ g cs fz, row = some g → W.heap[g]? ≠ some (.cells cs T fz)) : KeepsT T W W' := fun k cs fz hk =>
  (hg.block k (Array.getElem?_eq_some_iff.1 hk).1 (fun e => h k cs fz e.symm hk)).trans hk
theorem KeepsT.below {T : TypeId} {W W' : World} (h : Below W.heap.size W W') : KeepsT T W W' := fun k _ _ hk => (h.block k (Array.getElem?_eq_some_iff.1 hk).1).trans hk
theorem keepsFrom_below {B : Nat} {W W' : World} (h : Below W.heap.size W W') : KeepsFrom B W W' := ⟨h.size, fun k _ _ hk _ => (h.block k (Array.getElem?_eq_some_iff.1 hk).1).trans hk⟩
theorem boxed_below {W W' : World} {B : Nat} {t : TypeId} {v : Value} (h : Boxed W B t v) (hb : Below W.heap.size W W') : Boxed W' B t v := (hb.block _ h.lt).trans h
theorem keepsFrom_setCell {B : Nat} {W W' : World} (h : KeepsFrom B W W') (p : Addr) (v : Value) : KeepsFrom B W (W'.setCell p v) := h.trans ((KeepsOthers.setCell _ _ _).from _)
/-- a function that holds a range over a function leaves -/
theorem leave_mark {F : Fence} {n : Nat} {P : Program} {fn : Func} {tmps : Array Value} {R : Ending → World → Prop} {D : Nat} {W : World} {v : Value} (hK : W.heap[D]? = some (.deferred (some [])))
    (hv : (results fn tmps).run P (W.putObj D (.deferred none)) = .ok v (W.putObj D (.deferred none))) (hR : R (.returned v) (W.putObj D (.deferred none))) :
    LeavesInM F n P fn tmps R [{ target := .collected D, args := #[] }] .returning W :=
  ⟨by simp, .inl ⟨_, _, rfl, run_takeDeferred hK, ⟨v, hv, hR⟩⟩⟩
theorem Boxed.putObj {W : World} {B D : Nat} {t : TypeId} {v : Value} (h : Boxed W B t v) {o : Obj} (o' : Obj) (hD : W.heap[D]? = some o) (ho : o.isCells = false) : Boxed (W.putObj D o') B t v :=
  h.kept (grownBy_putObj' W D o') (fun e => by cases e; rw [show W.heap[B]? = _ from h] at hD; cases hD; cases ho)
theorem below_putObj {B D : Nat} {w W : World} (h : Below B w W) (o : Obj) (hD : B ≤ D) : Below B w (W.putObj D o) :=
  ⟨h.os, h.tape, h.output, by simpa using h.size, fun k hk => (World.putObj_heap_other (by omega)).trans (h.block k hk)⟩
theorem deferred_setCell {W : World} {D : Nat} {o : Obj} (h : W.heap[D]? = some o) (ho : o.isCells = false) (p : Addr) (v : Value) : (W.setCell p v).heap[D]? = some o := (KeepsOthers.setCell W p v).same D o h ho
theorem deferred_below {W W' : World} {D : Nat} {o : Obj} (h : W.heap[D]? = some o) (hb : Below W.heap.size W W') : W'.heap[D]? = some o := (hb.block D (Array.getElem?_eq_some_iff.1 h).1).trans h
end
end Go.Proofs.YtipfccfjniglbaaGreatDoor
namespace Go.Proofs.YtipfccfjniglbaaGreatDoor
section
/-- what stands behind a piece more -/
def cleanStep (st : List (List UInt8)) (p : List UInt8) : List (List UInt8) := if p = [46] then st else if p = [46, 46] then st.dropLast else st ++ [p]
def cleanPieces (l : List UInt8) : List (List UInt8) := (pieces l).foldl cleanStep []
def cleanP (l : List UInt8) : List UInt8 := Lib.join (cleanPieces l) [47]

/-- the bytes of the pieces, and one for each -/
def weight (l : List (List UInt8)) : Nat := (l.map (fun p => p.length + 1)).sum
theorem weight_nil : weight [] = 0 := rfl
theorem weight_cons (p : List UInt8) (l : List (List UInt8)) : weight (p :: l) = p.length + 1 + weight l := by simp [weight]
theorem weight_append (a b : List (List UInt8)) : weight (a ++ b) = weight a + weight b := by simp [weight]
theorem weight_length (l : List (List UInt8)) : l.length ≤ weight l := by
  induction l with
  | nil => exact Nat.le_refl _
  | cons p l ih => rw [weight_cons]; simp; omega
theorem weight_filter (f : List UInt8 → Bool) (l : List (List UInt8)) : weight (l.filter f) ≤ weight l := by
  induction l with
  | nil => exact Nat.le_refl _
  | cons p l ih =>
    rw [weight_cons]
    cases h : f p
    · rw [List.filter_cons_of_neg (by simp [h])]; omega
    · rw [List.filter_cons_of_pos h, weight_cons]; omega
theorem weight_dropLast (l : List (List UInt8)) : weight l.dropLast ≤ weight l := by
  rcases List.eq_nil_or_concat l with rfl | ⟨i, x, rfl⟩
  · exact Nat.le_refl _
  · rw [List.concat_eq_append, List.dropLast_concat, weight_append]; omega
theorem weight_pcs (l : List UInt8) : weight (pcs l) = l.length + 1 := by
  induction l with
  | nil => rfl
  | cons c t ih =>
    rw [pcs_cons]
    by_cases h : c = 47
    · rw [if_pos h, weight_cons, ih]; simp; omega
    · rw [if_neg h]
      cases hp : pcs t with
      | nil => exact absurd hp (pcs_ne t)
      | cons p ps =>
        rw [hp, weight_cons] at ih
        simp only
        rw [weight_cons]
        simp
        omega
theorem weight_pieces (l : List UInt8) : weight (pieces l) ≤ l.length + 1 := by
  rw [← weight_pcs]
  exact weight_filter _ _
theorem weight_step (st : List (List UInt8)) (p : List UInt8) : weight (cleanStep st p) ≤ weight st + (p.length + 1) := by
  unfold cleanStep
  split
  · omega
  · split
    · have := weight_dropLast st; omega
    · rw [weight_append, weight_cons, weight_nil]; omega
theorem weight_fold (ps st : List (List UInt8)) : weight (ps.foldl cleanStep st) ≤ weight st + weight ps := by
  induction ps generalizing st with
  | nil => simp [weight_nil]
  | cons p ps ih =>
    have h1 := ih (cleanStep st p)
    have h2 := weight_step st p
    rw [weight_cons]
    simp only [List.foldl_cons]
    omega
theorem weight_clean (l : List UInt8) : weight (cleanPieces l) ≤ l.length + 1 := by
  have h := weight_fold (pieces l) []
  rw [weight_nil] at h
  have := weight_pieces l
  unfold cleanPieces
  omega
/-- so many pieces at the most, wherever one stands -/
theorem fold_length {l : List UInt8} {pre : List (List UInt8)} {x : List UInt8} {rest : List (List UInt8)} (h : pieces l = pre ++ x :: rest) : (pre.foldl cleanStep []).length ≤ l.length := by
  have h1 := weight_length (pre.foldl cleanStep [])
  have h2 := weight_fold pre []
  have h3 := weight_pieces l
  rw [h, weight_append, weight_cons] at h3
  rw [weight_nil] at h2
  omega
theorem join_length (l : List (List UInt8)) (sep : List UInt8) (hs : sep.length = 1) : (Lib.join l sep).length ≤ weight l := by
  induction l with
  | nil => simp [Lib.join, List.intercalate, weight_nil]
  | cons p l ih =>
    cases l with
    | nil => rw [Lib.join_one, weight_cons]; omega
    | cons q l =>
      have e : Lib.join (p :: q :: l) sep = p ++ (sep ++ Lib.join (q :: l) sep) := by simp [Lib.join, List.intercalate]
      rw [e, weight_cons]
      simp
      omega
end
end Go.Proofs.YtipfccfjniglbaaGreatDoor
namespace Go.Proofs.YtipfccfjniglbaaGreatDoor
section
/-- two names held against each other -/
def cmpB (a b : List UInt8) : Int := if Op.bytesLess a b then -1 else if a == b then 0 else 1
/-- two rows of names held against each other -/
def cmpPs : List (List UInt8) → List (List UInt8) → Int
  | [], [] => 0
  | [], _ :: _ => -1
  | _ :: _, [] => 1
  | x :: xs, y :: ys => if cmpB x y = 0 then cmpPs xs ys else cmpB x y
theorem cmpPs_cons (x : List UInt8) (xs : List (List UInt8)) (y : List UInt8) (ys : List (List UInt8)) : cmpPs (x :: xs) (y :: ys) = if cmpB x y = 0 then cmpPs xs ys else cmpB x y := rfl
def compareP (a b : List UInt8) : Int := cmpPs (pcs a) (pcs b)
theorem cmpB_cases (a b : List UInt8) : (cmpB a b = -1 ∧ a < b) ∨ (cmpB a b = 0 ∧ a = b) ∨ (cmpB a b = 1 ∧ b < a) := by
  unfold cmpB
  rw [bytesLess_eq]
  by_cases h : a < b
  · rw [decide_eq_true h, if_pos rfl]; exact .inl ⟨rfl, h⟩
  · rw [decide_eq_false h, if_neg (by simp)]
    by_cases h2 : a = b
    · rw [show (a == b) = true from by simpa using h2, if_pos rfl]; exact .inr (.inl ⟨rfl, h2⟩)
    · rw [show (a == b) = false from by simpa using h2, if_neg (by simp)]
      refine .inr (.inr ⟨rfl, ?_⟩)
      exact Std.lt_of_le_of_ne (Std.not_lt.1 h) (fun e => h2 e.symm)
theorem cmpB_zero {a b : List UInt8} : cmpB a b = 0 ↔ a = b := by
  rcases cmpB_cases a b with ⟨h, h1⟩ | ⟨h, h1⟩ | ⟨h, h1⟩
  · rw [h]; exact ⟨fun e => absurd e (by decide), fun e => by subst e; exact absurd h1 (Std.lt_irrefl)⟩
  · exact ⟨fun _ => h1, fun _ => h⟩
  · rw [h]; exact ⟨fun e => absurd e (by decide), fun e => by subst e; exact absurd h1 (Std.lt_irrefl)⟩
theorem cmpB_neg {a b : List UInt8} : cmpB a b < 0 ↔ a < b := by
  rcases cmpB_cases a b with ⟨h, h1⟩ | ⟨h, h1⟩ | ⟨h, h1⟩
  · rw [h]; exact ⟨fun _ => h1, fun _ => by decide⟩
  · rw [h]; exact ⟨fun e => absurd e (by decide), fun e => by subst h1; exact absurd e (Std.lt_irrefl)⟩
  · rw [h]; exact ⟨fun e => absurd e (by decide), fun e => absurd (Std.lt_trans h1 e) (Std.lt_irrefl)⟩
theorem cmpB_flip (a b : List UInt8) : cmpB b a = - cmpB a b := by
  rcases cmpB_cases a b with ⟨h, h1⟩ | ⟨h, h1⟩ | ⟨h, h1⟩
  · rcases cmpB_cases b a with ⟨k, k1⟩ | ⟨k, k1⟩ | ⟨k, k1⟩
    · exact absurd (Std.lt_trans h1 k1) (Std.lt_irrefl)
    · subst k1; exact absurd h1 (Std.lt_irrefl)
    · rw [h, k]; rfl
  · subst h1
    rw [h]; rfl
  · rcases cmpB_cases b a with ⟨k, k1⟩ | ⟨k, k1⟩ | ⟨k, k1⟩
    · rw [h, k]
    · subst k1; exact absurd h1 (Std.lt_irrefl)
    · exact absurd (Std.lt_trans h1 k1) (Std.lt_irrefl)
theorem cmpPs_zero : ∀ {a b : List (List UInt8)}, cmpPs a b = 0 ↔ a = b
  | [], [] => ⟨fun _ => rfl, fun _ => rfl⟩
  | [], _ :: _ => ⟨fun h => (by cases h), fun h => (by cases h)⟩
  | _ :: _, [] => ⟨fun h => (by cases h), fun h => (by cases h)⟩
  | x :: xs, y :: ys => by
    rw [cmpPs_cons]
    by_cases h : cmpB x y = 0
    · rw [if_pos h, cmpPs_zero, cmpB_zero.1 h]
      simp
    · rw [if_neg h]
      refine ⟨fun e => absurd e h, fun e => ?_⟩
      injection e with e1 _
      exact absurd (cmpB_zero.2 e1) h
theorem cmpPs_flip : ∀ (a b : List (List UInt8)), cmpPs b a = - cmpPs a b
  | [], [] => rfl
  | [], _ :: _ => rfl
  | _ :: _, [] => rfl
  | x :: xs, y :: ys => by
    rw [cmpPs_cons, cmpPs_cons, cmpB_flip x y]
    by_cases h : cmpB x y = 0
    · rw [if_pos h, if_pos (by rw [h]; rfl), cmpPs_flip xs ys]
    · rw [if_neg h, if_neg (by omega)]
theorem cmpPs_trans : ∀ {a b c : List (List UInt8)}, cmpPs a b < 0 → cmpPs b c < 0 → cmpPs a c < 0
  | [], [], _, h, _ => absurd h (by decide)
  | [], _ :: _, [], _, h => absurd h (by show ¬ (1 : Int) < 0; decide)
  | [], _ :: _, _ :: _, _, _ => by show (-1 : Int) < 0; decide
  | _ :: _, [], _, h, _ => absurd h (by show ¬ (1 : Int) < 0; decide)
  | _ :: _, _ :: _, [], _, h => absurd h (by show ¬ (1 : Int) < 0; decide)
  | x :: xs, y :: ys, z :: zs, h, k => by
    rw [cmpPs_cons] at h k ⊢
    by_cases h1 : cmpB x y = 0
    · rw [if_pos h1] at h
      rw [cmpB_zero.1 h1]
      by_cases k1 : cmpB y z = 0
      · rw [if_pos k1] at k ⊢
        exact cmpPs_trans h k
      · rw [if_neg k1] at k ⊢
        exact k
    · rw [if_neg h1] at h
      by_cases k1 : cmpB y z = 0
      · rw [← cmpB_zero.1 k1, if_neg h1]
        exact h
      · rw [if_neg k1] at k
        have h2 := Std.lt_trans (cmpB_neg.1 h) (cmpB_neg.1 k)
        have h3 := cmpB_neg.2 h2
        rw [if_neg (by omega)]
        exact h3
/-- the pieces put together again -/
def glue : List (List UInt8) → List UInt8
  | [] => []
  | [x] => x
  | x :: y :: r => x ++ 47 :: glue (y :: r)
theorem glue_pcs : ∀ (l : List UInt8), glue (pcs l) = l
  | [] => rfl
  | c :: t => by
    rw [pcs_cons]
    have ih := glue_pcs t
    cases hp : pcs t with
    | nil => exact absurd hp (pcs_ne t)
    | cons p ps =>
      rw [hp] at ih
      by_cases h : c = 47
      · rw [if_pos h]
        show 47 :: glue (p :: ps) = _
        rw [ih, h]
      · rw [if_neg h]
        cases ps with
        | nil => show c :: p = _; rw [← ih]; rfl
        | cons q qs => show c :: (p ++ 47 :: glue (q :: qs)) = _; rw [← ih]; rfl
theorem pcs_inj {a b : List UInt8} (h : pcs a = pcs b) : a = b := by rw [← glue_pcs a, ← glue_pcs b, h]
theorem compareP_zero {a b : List UInt8} : compareP a b = 0 ↔ a = b := ⟨fun h => pcs_inj (cmpPs_zero.1 h), fun h => by subst h; exact cmpPs_zero.2 rfl⟩
theorem compareP_flip (a b : List UInt8) : compareP b a = - compareP a b := cmpPs_flip _ _
theorem compareP_trans {a b c : List UInt8} (h : compareP a b < 0) (k : compareP b c < 0) : compareP a c < 0 := cmpPs_trans h k
theorem compareP_irrefl (a : List UInt8) : ¬ compareP a a < 0 := by rw [compareP_zero.2 rfl]; decide
end
end Go.Proofs.YtipfccfjniglbaaGreatDoor
namespace Go.Proofs.YtipfccfjniglbaaGreatDoor
section
open Go.RowKit
theorem gadd_block (a : Addr) (j : Nat) : (a.add j).block = a.block := by unfold Addr.add; split <;> rfl
theorem gadd_new (g i j : Nat) : ((⟨g, i, none⟩ : Addr).add j) = ⟨g, i + j, none⟩ := by unfold Addr.add; split <;> simp_all
theorem gheap_old (w : World) (o : Obj) {r : Nat} (hr : r < w.heap.size) : (w.alloc o).heap[r]? = w.heap[r]? := Below.heap_alloc w o r hr
theorem grow_at {w : World} {g : Nat} {cs old : Array Value} {t : TypeId} (h : w.heap[g]? = some (.cells old t (0, 0))) : (w.setRow g cs).heap[g]? = some (.cells cs t (0, 0)) := setRow_heap w g _ cs _ _ h
theorem gtake {α : Type} {L : List α} {k : Nat} {e : α} (h : L[k]? = some e) : L.take k ++ [e] = L.take (k + 1) := by rw [List.take_add_one, h]; rfl
/-- the cells of a struct in a block of its own -/
theorem item_cells {w : World} {b : Nat} {cs : List Value} {t : TypeId} (h : w.heap[b]? = some (.cells cs.toArray t (0, 0))) : ∀ j v, cs[j]? = some v → w.cell? ((⟨b, 0, none⟩ : Addr).add j) = some v := by
  intro j v hv
  rw [gadd_new, Nat.zero_add]
  unfold World.cell?
  rw [h]
  simpa using hv
theorem block_cell {w : World} {b j : Nat} {cs : Array Value} {t : TypeId} {v : Value} (h : w.heap[b]? = some (.cells cs t (0, 0))) (hv : cs[j]? = some v) : w.cell? ⟨b, j, none⟩ = some v := by
  unfold World.cell?
  rw [h]
  simpa using hv
theorem block_frozen {w : World} {b : Nat} {cs : Array Value} {t : TypeId} (h : w.heap[b]? = some (.cells cs t (0, 0))) (j : Nat) : w.frozen? ⟨b, j, none⟩ = false := by
  unfold World.frozen?
  rw [h]; simp
/-- a cell is written -/
theorem block_set {w : World} {b j : Nat} {cs : Array Value} {t : TypeId} (h : w.heap[b]? = some (.cells cs t (0, 0))) (v : Value) : (w.setCell ⟨b, j, none⟩ v).heap[b]? = some (.cells (cs.setIfInBounds j v) t (0, 0)) := by
  simp [World.setCell, Array.getElem?_modify, h]
section
variable {P : Program}
theorem run_load_items (w : World) (a : Addr) (ty : TypeId) (cs : List Value) (d : TypeDesc) (hc : ∀ j v, cs[j]? = some v → w.cell? (a.add j) = some v)
    (hu : P.underlying ty = some d) (hd : (match d with | .struct _ | .array _ _ => true | _ => false) = true) (hi : (P.info? ty).map (·.size) = some cs.length) :
    (loadVar ty a).run P w = .ok (.agg cs.toArray) w := by
  have hl : (loadCells a cs.length).run P w = .ok cs.toArray w := run_loadCells_list (P := P) w a cs hc
  cases hq : P.info? ty with
  | none => simp [hq] at hi
  | some i =>
    have hs : i.size = cs.length := by simpa [hq] using hi
    have hagg : (isAgg ty).run P w = .ok true w := by
      unfold isAgg
      rw [Sem.run_bind, run_underlying hu w]
      cases d <;> simp_all
    simp [loadVar, Sem.run_bind, hagg, sizeOf, typeInfo, hq, hs, hl]
theorem wpList_load_items {ops : Array Oper} {rest : List Oper} {o : Oper} {a : Act} {w : World} {Q : Exit → Act → World → Prop} (hgd : o.guard = none) (ty : TypeId) (x : Operand) (ho : o.op = .load ty x)
    (p : Addr) (hx : a.eval x = .pointer (some p)) (cs : List Value) (d : TypeDesc) (hc : ∀ j v, cs[j]? = some v → w.cell? (p.add j) = some v)
    (hu : P.underlying ty = some d) (hd : (match d with | .struct _ | .array _ _ => true | _ => false) = true) (hi : (P.info? ty).map (·.size) = some cs.length)
    (h : wpList P ops Q rest (a.put o.dst (.agg cs.toArray)) w) : wpList P ops Q (o :: rest) a w := by
  refine wpList_plain hgd fun K hK => ?_
  unfold Oper.wp execOp
  simp only [ho, hx, Instr.loadAt, Instr.sureAddr, Sem.run_bind, Sem.run_pure, Result.andThen_ok, run_load_items w p ty cs d hc hu hd hi]
  exact hK _ _ h
theorem still_load_items {ops : Array Oper} {rest : List Oper} {o : Oper} {a : Act} {w : World} {Q : Act → Prop} (hgd : o.guard = none) (ty : TypeId) (x : Operand) (ho : o.op = .load ty x)
    (p : Addr) (hx : a.eval x = .pointer (some p)) (cs : List Value) (d : TypeDesc) (hc : ∀ j v, cs[j]? = some v → w.cell? (p.add j) = some v)
    (hu : P.underlying ty = some d) (hd : (match d with | .struct _ | .array _ _ => true | _ => false) = true) (hi : (P.info? ty).map (·.size) = some cs.length)
    (h : wpStill P ops w Q rest (a.put o.dst (.agg cs.toArray))) : wpStill P ops w Q (o :: rest) a := by
  refine wpStill_step (fun K hK => ?_)
  rw [if_pos (show Region.wanted o (yielded ops a.tmps) = true by simp [Region.wanted, hgd])]
  unfold Oper.still execOp
  simp only [ho, hx, Instr.loadAt, Instr.sureAddr, Sem.run_bind, Sem.run_pure, Result.andThen_ok, run_load_items w p ty cs d hc hu hd hi]
  exact ⟨rfl, hK _ h⟩
/-- a region that only reads: the world behind the draw has a name -/
theorem gregion_named {id : Nat} {Q : Exit → Act → World → Prop} {a : Act} {w : World} {l : List Oper} (hm : P.follows .mixedOrders = true) (hB : Region.lexB .any l.toArray = true)
    (h : ∀ wz, wz = w.drew → wpStill P l.toArray wz (fun a' => Q .normal a' wz) l a) : (Code.region id l.toArray true).wp P Q a w := wp_region_still_lit hm hB (h _ rfl)
/-- an append to a row of the call's own, as a step -/
theorem gstep_append_own {w : World} {ops : Array Oper} {o : Oper} {a : Act} {K : Act → World → Prop} {Q : Exit → Act → World → Prop} {X : Prop} (hgd : o.guard = none) (s x : Operand) (t : TypeId)
    (ho : o.op = .call { callee := .builtin .append, args := #[s, x], argTypes := #[t, t] })
    (base : Nat) (e : TypeId) (i : TypeInfo) (z : Value) (size bytes : Nat) (ht : P.underlying t = some (.slice e)) (hi : P.info? e = some i) (hz : i.zero = some z)
    (hsize : i.size = size) (hby : i.bytes = bytes) (hzs : z.cells.size = size) (hsz : 0 < size)
    (v : Value) (n : Nat) (xs : List Value) (hs : a.eval s = v) (hown : w.ownsRow base e size v n xs)
    (ad : Addr) (m c : Nat) (news : List Value) (hx : a.eval x = .slice (some ad) m c) (hl : news.length = m * size) (hnews : ∀ j u, news[j]? = some u → w.cell? (ad.add j) = some u) (h1 : ∀ u ∈ news, u.oneCell' = true)
    (h63 : n + m ≤ maxLen) (hbytes : (n + m) * bytes ≤ 140737488355328) (hbase : base ≤ w.heap.size)
    (h : ∀ v' w', w'.ownsRow base e size v' (n + m) (xs ++ news) → w.grownBy w' v.ownBlock → (v' = .slice none 0 0 ↔ v = .slice none 0 0 ∧ m = 0) → K (a.put o.dst v') w') :
    if Region.wanted o (yielded ops a.tmps) = true then Oper.wp P o a w K Q else X := by
  have hwt : Region.wanted o (yielded ops a.tmps) = true := by simp [Region.wanted, hgd]
  rw [if_pos hwt]
  obtain ⟨v', w', hr, h2, h3, h4, h5⟩ := run_append_own_at (P := P) w base t o.type e i z size bytes ht hi hz hsize hby hzs hsz v n xs hown ad m c news hl hnews h1 h63 hbytes hbase
  unfold Oper.wp execOp
  simp only [ho, resolve, invoke, builtin, Sem.run_bind, Sem.run_pure, Result.andThen_ok, List.map_toArray, List.map_cons, List.map_nil, hs, hx, hr]
  exact h v' w' h2 h3 h4
/-- .. behind N operations that only read, the rest in the text's order -/
theorem gregion_tail {id : Nat} {Q : Exit → Act → World → Prop} {a : Act} {w : World} {l : List Oper} (n : Nat) (hm : P.follows .mixedOrders = true) (hB : Region.lexTailB .any l.toArray n = true)
    (h : ∀ wz, wz = w.drew → wpStill P l.toArray wz (fun a' => wpList P l.toArray Q (l.drop n) a' wz) (l.take n) a) : (Code.region id l.toArray true).wp P Q a w := wp_region_still_tail n hm hB (h _ rfl)
end
section
variable {α : Type} (enc : α → List Value) (sz : Nat)
/-- a slice of structs in memory -/
def ItemsAt (w : World) (v : Value) (L : List α) : Prop := ∃ o cap, v = .slice o L.length cap ∧ L.length ≤ cap ∧ cap ≤ maxLen ∧ ∀ (i : Nat) e, L[i]? = some e → ∃ a, o = some a ∧ a.block < w.heap.size ∧ ∀ j x, (enc e)[j]? = some x → w.cell? ((a.add (i * sz)).add j) = some x
variable {enc sz}
theorem ItemsAt.nil (w : World) : ItemsAt enc sz w (.slice none 0 0) ([] : List α) := ⟨none, 0, rfl, Nat.le_refl _, by simp, fun i e h => by cases h⟩
theorem ItemsAt.keep {w w' : World} {v : Value} {L : List α} (h : ItemsAt enc sz w v L) (hs : w.heap.size ≤ w'.heap.size) (hb : ∀ o n c k, v = .slice (some o) n c → k = o.block → w'.heap[k]? = w.heap[k]?) : ItemsAt enc sz w' v L := by
  obtain ⟨o, cap, h1, h2, h3, h4⟩ := h
  refine ⟨o, cap, h1, h2, h3, fun i e he => ?_⟩
  obtain ⟨a, rfl, hl, hc⟩ := h4 i e he
  refine ⟨a, rfl, Nat.lt_of_lt_of_le hl hs, fun j x hx => ?_⟩
  have := hc j x hx
  unfold World.cell? at this ⊢
  rw [hb a _ _ _ h1 (by rw [gadd_block, gadd_block])]
  exact this
theorem ItemsAt.below {w w' : World} {v : Value} {L : List α} {B : Nat} (h : ItemsAt enc sz w v L) (hb : Below B w w') (hB : w.heap.size ≤ B) : ItemsAt enc sz w' v L := by
  obtain ⟨o, cap, h1, h2, h3, h4⟩ := h
  refine ⟨o, cap, h1, h2, h3, fun i e he => ?_⟩
  obtain ⟨a, rfl, hl, hc⟩ := h4 i e he
  refine ⟨a, rfl, Nat.lt_of_lt_of_le hl hb.size, fun j x hx => ?_⟩
  have := hc j x hx
  unfold World.cell? at this ⊢
  rw [hb.block _ (by rw [gadd_block, gadd_block]; omega)]
  exact this
theorem gflat_get (hz : ∀ e, (enc e).length = sz) : ∀ {L : List α} {i j : Nat} {e : α} {x : Value}, L[i]? = some e → (enc e)[j]? = some x → (L.flatMap enc)[i * sz + j]? = some x
  | [], i, j, e, x, h, _ => by simp at h
  | y :: L, 0, j, e, x, h, hx => by
    simp at h
    subst h
    have hj : j < (enc y).length := (List.getElem?_eq_some_iff.1 hx).1
    rw [List.flatMap_cons, List.getElem?_append_left (by simpa using hj)]
    simpa using hx
  | y :: L, i + 1, j, e, x, h, hx => by
    have e1 : (i + 1) * sz + j = sz + (i * sz + j) := by rw [Nat.add_mul, Nat.one_mul]; omega
    rw [List.flatMap_cons, List.getElem?_append_right (by rw [hz]; omega), hz, e1, Nat.add_sub_cancel_left]
    exact gflat_get hz (L := L) (i := i) (by simpa using h) hx
theorem gflat_len (hz : ∀ e, (enc e).length = sz) (L : List α) : (L.flatMap enc).length = L.length * sz := by
  induction L with
  | nil => simp
  | cons e L ih => rw [List.flatMap_cons, List.length_append, ih, hz, List.length_cons, Nat.add_mul, Nat.one_mul]; omega
theorem items_of_row (hz : ∀ e, (enc e).length = sz) {w : World} {base : Nat} {T : TypeId} {v : Value} {L : List α} (h : w.ownsRow base T sz v L.length (L.flatMap enc)) : ItemsAt enc sz w v L := by
  obtain ⟨h1, h2⟩ := h
  rcases h2 with ⟨rfl, h0⟩ | ⟨g, cap, cur, rfl, hb, hg, hcap, hmx, hsz, htk⟩
  · obtain rfl : L = [] := List.eq_nil_of_length_eq_zero h0
    exact ⟨none, 0, rfl, Nat.le_refl _, by simp, fun i e he => by simp at he⟩
  · refine ⟨some ⟨g, 0, none⟩, cap, rfl, hcap, hmx, fun i e he => ⟨_, rfl, (Array.getElem?_eq_some_iff.1 hg).1, fun j x hx => ?_⟩⟩
    have hi : i < L.length := (List.getElem?_eq_some_iff.1 he).1
    have hj : j < sz := by have := (List.getElem?_eq_some_iff.1 hx).1; rwa [hz] at this
    have e1 : ((⟨g, 0, none⟩ : Addr).add (i * sz)).add j = ⟨g, i * sz + j, none⟩ := by rw [gadd_new, gadd_new, Nat.zero_add]
    rw [e1]
    have h3 := gflat_get hz he hx
    have h4 : i * sz + j < L.length * sz := by
      have : (i + 1) * sz ≤ L.length * sz := Nat.mul_le_mul_right _ hi
      rw [Nat.add_mul, Nat.one_mul] at this
      omega
    rw [← htk, List.getElem?_take, if_pos h4] at h3
    unfold World.cell?
    rw [hg]
    simpa using h3
theorem ItemsAt.len {w : World} {v : Value} {L : List α} (h : ItemsAt enc sz w v L) : ∃ o cap, v = .slice o L.length cap ∧ L.length ≤ cap ∧ cap ≤ maxLen := by
  obtain ⟨o, cap, h1, h2, h3, _⟩ := h
  exact ⟨o, cap, h1, h2, h3⟩
theorem ItemsAt.get {w : World} {o : Option Addr} {n cap : Nat} {L : List α} (h : ItemsAt enc sz w (.slice o n cap) L) {i : Nat} {e : α} (he : L[i]? = some e) : ∃ a, o = some a ∧ a.block < w.heap.size ∧ ∀ j x, (enc e)[j]? = some x → w.cell? ((a.add (i * sz)).add j) = some x := by
  obtain ⟨o', cap', h1, h2, h3, h4⟩ := h
  injection h1 with e1 e2 e3
  subst e1
  exact h4 i e he
variable (enc sz)
/-- a slice of slices of structs -/
def ListsAt (w : World) (v : Value) (LL : List (List α)) : Prop := ∃ o cap, v = .slice o LL.length cap ∧ LL.length ≤ cap ∧ cap ≤ maxLen ∧ ∀ (i : Nat) L, LL[i]? = some L → ∃ a x, o = some a ∧ a.block < w.heap.size ∧ w.cell? (a.add i) = some x ∧ ItemsAt enc sz w x L
variable {enc sz}
theorem ListsAt.below {w w' : World} {v : Value} {LL : List (List α)} {B : Nat} (h : ListsAt enc sz w v LL) (hb : Below B w w') (hB : w.heap.size ≤ B) : ListsAt enc sz w' v LL := by
  obtain ⟨o, cap, h1, h2, h3, h4⟩ := h
  refine ⟨o, cap, h1, h2, h3, fun i e he => ?_⟩
  obtain ⟨a, x, rfl, hl, hc, hi⟩ := h4 i e he
  refine ⟨a, x, rfl, Nat.lt_of_lt_of_le hl hb.size, ?_, hi.below hb hB⟩
  unfold World.cell? at hc ⊢
  rw [hb.block _ (by rw [gadd_block]; omega)]
  exact hc
theorem ListsAt.len {w : World} {v : Value} {LL : List (List α)} (h : ListsAt enc sz w v LL) : ∃ o cap, v = .slice o LL.length cap ∧ LL.length ≤ cap ∧ cap ≤ maxLen := by
  obtain ⟨o, cap, h1, h2, h3, _⟩ := h
  exact ⟨o, cap, h1, h2, h3⟩
theorem ListsAt.get {w : World} {o : Option Addr} {n cap : Nat} {LL : List (List α)} (h : ListsAt enc sz w (.slice o n cap) LL) {i : Nat} {L : List α} (he : LL[i]? = some L) : ∃ a o2 c2, o = some a ∧ a.block < w.heap.size ∧ w.cell? (a.add i) = some (.slice o2 L.length c2) ∧ L.length ≤ c2 ∧ c2 ≤ maxLen ∧ ItemsAt enc sz w (.slice o2 L.length c2) L := by
  obtain ⟨o', cap', h1, h2, h3, h4⟩ := h
  injection h1 with e1 e2 e3
  subst e1
  obtain ⟨a, x, h5, h6, h7, h8⟩ := h4 i L he
  obtain ⟨o2, c2, rfl, h9, h10⟩ := h8.len
  exact ⟨a, o2, c2, h5, h6, h7, h9, h10, h8⟩
end
end
end Go.Proofs.YtipfccfjniglbaaGreatDoor
