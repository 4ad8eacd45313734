/- Plain functions on lists of bytes: what layer 1 (path) computes. -/
import Derived.Lib.Strings
import Derived.Lib.IndexBytes
import Derived.Lib.IndexLaws
import Derived.Lib.LastIndexByte
import Derived.Lib.Join
import Derived.Test.YtfanfkogogijpaaGreatDoorUtf
namespace Go.Proofs.YtfanfkogogijpaaGreatDoor

/-- the text of these bytes -/
def bs (l : List UInt8) : ByteArray := ⟨l.toArray⟩
@[simp] theorem bs_toList (l : List UInt8) : (bs l).data.toList = l := rfl
@[simp] theorem bs_size (l : List UInt8) : (bs l).size = l.length := rfl
theorem bs_of (s : ByteArray) : bs s.data.toList = s := by cases s; rfl
theorem bs_tl (l : List UInt8) : (bs l).toList = l := by rw [Lib.toList_data]; rfl
theorem ba_ext {a b : ByteArray} (h : a.data.toList = b.data.toList) : a = b := by rw [← bs_of a, ← bs_of b, h]
theorem extract_bs (s : ByteArray) (a b : Nat) : s.extract a b = bs ((s.data.toList.drop a).take (b - a)) := ba_ext (Lib.extract_data s a b)
theorem append_bs (a b : ByteArray) : a ++ b = bs (a.data.toList ++ b.data.toList) := by
  apply ba_ext
  rw [ByteArray.data_append, Array.toList_append]
  rfl
theorem extract_head (s : ByteArray) (b : Nat) : s.extract 0 b = bs (s.data.toList.take b) := by rw [extract_bs]; simp
theorem extract_tail (s : ByteArray) (a : Nat) : s.extract a s.size = bs (s.data.toList.drop a) := by
  rw [extract_bs, List.take_of_length_le]
  rw [List.length_drop, Lib.size_eq]
  exact Nat.le_refl _
theorem isEmpty_iff (s : ByteArray) : s.toList.isEmpty = true ↔ s.data.toList = [] := by rw [Lib.toList_data, List.isEmpty_iff]

theorem byte_test (s : ByteArray) (k : Nat) (h : k < s.size) (c : Nat) (hc : c < 256) : ((((s[k]'h).toNat : Nat) : Int) == (c : Int)) = decide (s.data.toList[k]? = some (UInt8.ofNat c)) := by
  rw [Lib.data_getElem? s k h]
  have hcc : (UInt8.ofNat c).toNat = c := by simp; omega
  by_cases e : s[k] = UInt8.ofNat c
  · rw [e, hcc]
    simp
  · have h1 : ¬ (s[k].toNat = c) := fun hh => e (UInt8.toNat_inj.1 (by rw [hcc]; exact hh))
    rw [decide_eq_false (by simpa using e)]
    rw [beq_eq_false_iff_ne]
    omega
theorem byte_eq {s : ByteArray} {k : Nat} (h : k < s.size) (c : Nat) (hc : c < 256) (he : s.data.toList[k]? = some (UInt8.ofNat c)) : ((((s[k]'h).toNat : Nat) : Int) == (c : Int)) = true := by
  rw [byte_test s k h c hc]; exact decide_eq_true he
theorem byte_ne {s : ByteArray} {k : Nat} (h : k < s.size) (c : Nat) (hc : c < 256) (he : ¬ s.data.toList[k]? = some (UInt8.ofNat c)) : ((((s[k]'h).toNat : Nat) : Int) == (c : Int)) = false := by
  rw [byte_test s k h c hc]; exact decide_eq_false he
/-- the place behind the last slash among the first k bytes; 0: there is none -/
def slashAt (l : List UInt8) : Nat → Nat
  | 0 => 0
  | k + 1 => if l[k]? = some 47 then k + 1 else slashAt l k
def slashPos (l : List UInt8) : Nat := slashAt l l.length
theorem slashAt_le (l : List UInt8) : ∀ k, slashAt l k ≤ k
  | 0 => Nat.le_refl _
  | k + 1 => by
    unfold slashAt
    split
    · exact Nat.le_refl _
    · exact Nat.le_succ_of_le (slashAt_le l k)
theorem slashPos_le (l : List UInt8) : slashPos l ≤ l.length := slashAt_le l _
theorem lastIdx_eq (s : ByteArray) : ∀ k, k ≤ s.size → Lib.lastIdx s 47 k = (slashAt s.data.toList k : Int) - 1
  | 0, _ => rfl
  | k + 1, h => by
    have hk : k < s.size := h
    have e : s.data.toList[k]? = some s.data[k]! := by
      rw [Lib.data_getElem? s k hk]
      congr 1
      have hk' : k < s.data.size := hk
      rw [getElem!_pos s.data k hk']
      rfl
    unfold Lib.lastIdx slashAt
    rw [e]
    by_cases hc : s.data[k]! = 47
    · rw [hc, if_pos rfl, if_pos (by rfl)]
      omega
    · have h1 : ¬ ((s.data[k]!.toNat : Int) = 47) := fun hh => hc (UInt8.toNat_inj.1 (by show _ = 47; omega))
      rw [if_neg h1, if_neg (by simpa using hc)]
      exact lastIdx_eq s k (Nat.le_of_lt hk)
theorem lastByte_eq (s : ByteArray) : Lib.lastIndexByte s 47 = (slashPos s.data.toList : Int) - 1 := by
  unfold Lib.lastIndexByte slashPos
  rw [lastIdx_eq s _ (Nat.le_refl _), Lib.size_eq]
def parent (l : List UInt8) : List UInt8 := l.take (slashPos l - 1)
def lastName (l : List UInt8) : List UInt8 := l.drop (slashPos l)
def joinP (a b : List UInt8) : List UInt8 := if a = [] then b else a ++ 47 :: b
def belowP (d p : List UInt8) : Bool := if d = [] then !p.isEmpty else (d ++ [47]).isPrefixOf p

/-- the first slash from a place on, within so many bytes -/
def firstFrom (l : List UInt8) : Nat → Nat → Option Nat
  | _, 0 => none
  | i, f + 1 => if l[i]? = some 47 then some i else firstFrom l (i + 1) f
theorem first_some {l : List UInt8} : ∀ {f i j : Nat}, firstFrom l i f = some j → i ≤ j ∧ j < i + f ∧ l[j]? = some 47 ∧ ∀ k, i ≤ k → k < j → ¬ l[k]? = some 47
  | 0, _, _, h => by cases h
  | f + 1, i, j, h => by
    unfold firstFrom at h
    split at h
    · rename_i hc
      cases h
      exact ⟨Nat.le_refl _, by omega, hc, fun k a b => by omega⟩
    · rename_i hc
      obtain ⟨a, b, c, d⟩ := first_some h
      exact ⟨by omega, by omega, c, fun k x y => by
        rcases (by omega : k = i ∨ i + 1 ≤ k) with rfl | h2
        · exact hc
        · exact d k h2 y⟩
theorem first_none {l : List UInt8} : ∀ {f i : Nat}, firstFrom l i f = none → ∀ k, i ≤ k → k < i + f → ¬ l[k]? = some 47
  | 0, _, _ => fun k a b => by omega
  | f + 1, i, h => by
    unfold firstFrom at h
    split at h
    · cases h
    · rename_i hc
      intro k a b
      rcases (by omega : k = i ∨ i + 1 ≤ k) with rfl | h2
      · exact hc
      · exact first_none h k h2 (by omega)
theorem first_mk {l : List UInt8} : ∀ {f i j : Nat}, i ≤ j → j < i + f → l[j]? = some 47 → (∀ k, i ≤ k → k < j → ¬ l[k]? = some 47) → firstFrom l i f = some j
  | 0, i, j, a, b, _, _ => by omega
  | f + 1, i, j, a, b, c, d => by
    unfold firstFrom
    rcases (by omega : j = i ∨ i + 1 ≤ j) with rfl | h2
    · rw [if_pos c]
    · rw [if_neg (d i (Nat.le_refl _) h2)]
      exact first_mk h2 (by omega) c (fun k x y => d k (by omega) y)
theorem first_mk_none {l : List UInt8} : ∀ {f i : Nat}, (∀ k, i ≤ k → k < i + f → ¬ l[k]? = some 47) → firstFrom l i f = none
  | 0, i, _ => rfl
  | f + 1, i, d => by
    unfold firstFrom
    rw [if_neg (d i (Nat.le_refl _) (by omega))]
    exact first_mk_none (fun k x y => d k (by omega) (by omega))
/-- what IndexByte answers of the piece that Split looks at -/
theorem index_first (l : List UInt8) (h : 100 < l.length) :
    Lib.indexByte ((l.drop (l.length - 101)).take (l.length - 1 - (l.length - 101))) 47 = (match firstFrom l (l.length - 101) 100 with | none => -1 | some j => ((j - (l.length - 101) : Nat) : Int)) := by
  have hget : ∀ k, k < 100 → ((l.drop (l.length - 101)).take (l.length - 1 - (l.length - 101)))[k]? = l[(l.length - 101) + k]? := by
    intro k hk
    rw [List.getElem?_take_of_lt (by omega), List.getElem?_drop]
  have hlen : ((l.drop (l.length - 101)).take (l.length - 1 - (l.length - 101))).length = 100 := by simp; omega
  generalize hp : (l.drop (l.length - 101)).take (l.length - 1 - (l.length - 101)) = p at *
  have hge := Lib.indexByte_ge p 47
  rcases Int.lt_or_le (Lib.indexByte p 47) 0 with hlt | hle
  · have hm : Lib.indexByte p 47 = -1 := by omega
    rw [hm, first_mk_none]
    intro k a b hc
    refine Lib.indexByte_none hm (k - (l.length - 101)) ?_
    rw [hget _ (by omega), show l.length - 101 + (k - (l.length - 101)) = k from by omega]
    exact hc
  · obtain ⟨o, ho⟩ := Int.eq_ofNat_of_zero_le hle
    obtain ⟨h1, h2⟩ := Lib.indexByte_some (o := o) ho
    have ho100 : o < 100 := by
      rw [← hlen]
      exact (List.getElem?_eq_some_iff.1 h1).1
    rw [ho, first_mk (j := l.length - 101 + o) (by omega) (by omega)]
    · simp
    · rw [← hget o ho100]; exact h1
    · intro k a b hc
      refine h2 (k - (l.length - 101)) (by omega) ?_
      rw [hget _ (by omega), show l.length - 101 + (k - (l.length - 101)) = k from by omega]
      exact hc
def splitP (l : List UInt8) : List UInt8 × List UInt8 × Nat :=
  if l.length ≤ 100 then ([], l, 0) else
  match firstFrom l (l.length - 101) 100 with
  | none => ([], [], 9)
  | some i => if i < 1 ∨ 155 < i then ([], [], 9) else (l.take i, l.drop (i + 1), 0)

def white : List UInt8 := [46, 119, 104, 46]
def nameOk (l : List UInt8) : Bool := !l.isEmpty && decide (l.length ≤ 96) && !l.any bad && !(l == [46]) && !(l == [46, 46]) && !(Lib.hasPrefix l white)
def nameNo (l : List UInt8) : Nat := if nameOk l then 0 else 8

/-- what stands ahead of the first slash, what behind it, and whether there is one -/
def cutP : List UInt8 → List UInt8 × List UInt8 × Bool
  | [] => ([], [], false)
  | c :: t => if c = 47 then ([], t, true) else (c :: (cutP t).1, (cutP t).2.1, (cutP t).2.2)
theorem cutP_none : ∀ {l : List UInt8}, Lib.indexByte l 47 = -1 → cutP l = (l, [], false)
  | [], _ => rfl
  | c :: t, h => by
    unfold Lib.indexByte at h
    by_cases hc : c = 47
    · subst hc
      simp at h
    · have hc' : (c == 47) = false := by simpa using hc
      rw [hc'] at h
      simp only [Bool.false_eq_true, if_false] at h
      have ht : Lib.indexByte t 47 = -1 := by
        have := Lib.indexByte_ge t 47
        split at h
        · rename_i h1; simpa using h1
        · omega
      unfold cutP
      rw [if_neg hc, cutP_none ht]
theorem cutP_some : ∀ {l : List UInt8} {i : Nat}, Lib.indexByte l 47 = i → cutP l = (l.take i, l.drop (i + 1), true)
  | [], i, h => by unfold Lib.indexByte at h; omega
  | c :: t, i, h => by
    unfold Lib.indexByte at h
    by_cases hc : c = 47
    · subst hc
      simp at h
      obtain rfl : i = 0 := by omega
      unfold cutP
      simp
    · have hc' : (c == 47) = false := by simpa using hc
      rw [hc'] at h
      simp only [Bool.false_eq_true, if_false] at h
      have hg := Lib.indexByte_ge t 47
      split at h
      · omega
      · rename_i h1
        have h1' : ¬ Lib.indexByte t 47 = -1 := by simpa using h1
        obtain ⟨k, hk⟩ := Int.eq_ofNat_of_zero_le (show 0 ≤ Lib.indexByte t 47 by omega)
        obtain rfl : i = k + 1 := by omega
        unfold cutP
        rw [if_neg hc, cutP_some hk]
        simp
theorem cutP_shorter : ∀ (l : List UInt8), (cutP l).2.2 = true → (cutP l).2.1.length < l.length
  | [], h => by cases h
  | c :: t, h => by
    unfold cutP at h ⊢
    split
    · simp
    · rename_i hc
      rw [if_neg hc] at h
      have := cutP_shorter t h
      simp; omega
theorem cutP_le : ∀ (l : List UInt8), (cutP l).1.length ≤ l.length ∧ (cutP l).2.1.length ≤ l.length
  | [] => ⟨Nat.le_refl _, Nat.le_refl _⟩
  | c :: t => by
    have := cutP_le t
    unfold cutP
    split
    · simp
    · simp; omega

/-- the pieces between the slashes, the empty ones too -/
def pcs : List UInt8 → List (List UInt8)
  | [] => [[]]
  | c :: t => if c = 47 then [] :: pcs t else match pcs t with
    | [] => [[c]]
    | p :: ps => (c :: p) :: ps
theorem pcs_cons (c : UInt8) (t : List UInt8) : pcs (c :: t) = if c = 47 then [] :: pcs t else match pcs t with | [] => [[c]] | p :: ps => (c :: p) :: ps := rfl
theorem cutP_cons (c : UInt8) (t : List UInt8) : cutP (c :: t) = if c = 47 then ([], t, true) else (c :: (cutP t).1, (cutP t).2.1, (cutP t).2.2) := rfl
theorem pcs_cut : ∀ (l : List UInt8), pcs l = (cutP l).1 :: (if (cutP l).2.2 then pcs (cutP l).2.1 else [])
  | [] => rfl
  | c :: t => by
    rw [pcs_cons, cutP_cons]
    by_cases h : c = 47
    · rw [if_pos h, if_pos h]
      simp
    · rw [if_neg h, if_neg h, pcs_cut t]
theorem pcs_ne (l : List UInt8) : pcs l ≠ [] := by rw [pcs_cut]; simp
theorem pcs_length : ∀ (l : List UInt8), (pcs l).length ≤ l.length + 1
  | [] => Nat.le_refl _
  | c :: t => by
    have := pcs_length t
    unfold pcs
    split
    · simp; omega
    · split
      · simp
      · rename_i p ps h; rw [h] at this; simp at this ⊢; omega
theorem pcs_mem_length : ∀ (l : List UInt8), ∀ p ∈ pcs l, p.length ≤ l.length
  | [], p, h => by simp [pcs] at h; subst h; exact Nat.le_refl _
  | c :: t, p, h => by
    unfold pcs at h
    split at h
    · rcases List.mem_cons.1 h with rfl | h
      · simp
      · have := pcs_mem_length t p h; simp; omega
    · split at h
      · simp at h; subst h; simp
      · rename_i q ps hq
        rcases List.mem_cons.1 h with rfl | h
        · have := pcs_mem_length t q (by rw [hq]; simp); simp; omega
        · have := pcs_mem_length t p (by rw [hq]; simp [h]); simp; omega
/-- the pieces, the empty ones left out -/
def pieces (l : List UInt8) : List (List UInt8) := (pcs l).filter (fun p => !p.isEmpty)
end Go.Proofs.YtfanfkogogijpaaGreatDoor
