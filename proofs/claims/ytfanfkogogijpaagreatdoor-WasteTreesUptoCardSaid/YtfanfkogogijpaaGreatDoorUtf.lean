/- Plain facts on UTF-8: what decoding a byte of 128 or more skips holds no byte below 128, and what encoding a rune of 128 or more gives. -/
import Derived.Laws.RangeAny
import Derived.Laws.Runes
import Derived.Lib.IndexAny
namespace Go.Proofs.YtfanfkogogijpaaGreatDoor

theorem get_some (s : ByteArray) (i : Nat) (h : i < s.size) : s.data.toList[i]? = some (s.get! i) := by
  have e := Go.get_at s i h
  rw [Nat.add_zero] at e
  rw [e, List.getElem?_eq_getElem (by simpa using h)]
  rfl
theorem decode_valid (s : ByteArray) (i : Nat) : Utf8.valid ((Utf8.decode s i).1 : Int) = true := by
  have hb : ∀ k, (s.get! (i + k)).toNat < 256 := fun k => (s.get! (i + k)).toNat_lt
  have h0 := (s.get! i).toNat_lt; have h1 := hb 1; have h2 := hb 2; have h3 := hb 3
  unfold Utf8.decode
  simp only [Nat.add_zero]
  repeat' split
  all_goals first
    | (rename_i hx; simp only [Bool.and_eq_true, decide_eq_true_eq] at hx; exact hx.2)
    | (unfold Utf8.valid Utf8.runeError; decide)
    | (unfold Utf8.valid; simp; omega)
theorem decode_skip (s : ByteArray) (i : Nat) (h : i < s.size) (h128 : 128 ≤ (s.get! i).toNat) :
    i + (Utf8.decode s i).2 ≤ s.size ∧ ∀ j, i ≤ j → j < i + (Utf8.decode s i).2 → 128 ≤ (s.get! j).toNat := by
  have hc : ∀ k, (i + k < s.size && (s.get! (i + k)).toNat / 64 == 2) = true → i + k < s.size ∧ 128 ≤ (s.get! (i + k)).toNat := by
    intro k hk
    simp only [Bool.and_eq_true, decide_eq_true_eq, beq_iff_eq] at hk
    exact ⟨hk.1, by omega⟩
  have one : i + 1 ≤ s.size ∧ ∀ j, i ≤ j → j < i + 1 → 128 ≤ (s.get! j).toNat := ⟨h, fun j a b => (by omega : j = i) ▸ h128⟩
  simp only [Utf8.decode, Nat.add_zero]
  rw [if_neg (by omega)]
  split
  · rename_i hx
    have c1 := hc 1 (by simp only [Bool.and_eq_true] at hx ⊢; exact hx.2)
    split
    · exact ⟨by show i + 2 ≤ _; omega, fun j a b => by
        have b' : j < i + 2 := b
        rcases (by omega : j = i ∨ j = i + 1) with rfl | rfl
        · exact h128
        · exact c1.2⟩
    · exact one
  · split
    · rename_i hx
      simp only [Bool.and_eq_true] at hx
      have c1 := hc 1 (by simp only [Bool.and_eq_true]; exact hx.1.2)
      have c2 := hc 2 (by simp only [Bool.and_eq_true]; exact hx.2)
      split
      · exact ⟨by show i + 3 ≤ _; omega, fun j a b => by
          have b' : j < i + 3 := b
          rcases (by omega : j = i ∨ j = i + 1 ∨ j = i + 2) with rfl | rfl | rfl
          · exact h128
          · exact c1.2
          · exact c2.2⟩
      · exact one
    · split
      · rename_i hx
        simp only [Bool.and_eq_true] at hx
        have c1 := hc 1 (by simp only [Bool.and_eq_true]; exact hx.1.1.2)
        have c2 := hc 2 (by simp only [Bool.and_eq_true]; exact hx.1.2)
        have c3 := hc 3 (by simp only [Bool.and_eq_true]; exact hx.2)
        split
        · exact ⟨by show i + 4 ≤ _; omega, fun j a b => by
            have b' : j < i + 4 := b
            rcases (by omega : j = i ∨ j = i + 1 ∨ j = i + 2 ∨ j = i + 3) with rfl | rfl | rfl | rfl
            · exact h128
            · exact c1.2
            · exact c2.2
            · exact c3.2⟩
        · exact one
      · exact one
theorem decode_low (s : ByteArray) (i : Nat) (h : i < s.size) (h128 : (s.get! i).toNat < 128) : Utf8.decode s i = ((s.get! i).toNat, 1) := by
  have e := Go.get_at s i h
  rw [Nat.add_zero] at e
  rw [Go.decode_ascii s i h (by rw [← e]; exact h128), ← e]
theorem decode_up (s : ByteArray) (i : Nat) (h : i < s.size) (h128 : 128 ≤ (s.get! i).toNat) : 128 ≤ (Utf8.decode s i).1 ∧ 1 ≤ (Utf8.decode s i).2 := by
  have e := Go.get_at s i h
  rw [Nat.add_zero] at e
  exact Go.decode_high s i h (by rw [← e]; exact h128)
/-- the bytes of a rune of 128 or more: two, three or four; the last is no ASCII byte. -/
theorem encode_forms (r : Int) (hv : Utf8.valid r = true) (h : 128 ≤ r) :
    (∃ a b : UInt8, Utf8.encode r = ⟨#[a, b]⟩ ∧ 128 ≤ b.toNat) ∨ (∃ a b c : UInt8, Utf8.encode r = ⟨#[a, b, c]⟩) ∨ (∃ a b c d : UInt8, Utf8.encode r = ⟨#[a, b, c, d]⟩) := by
  have hc : ¬ r.toNat < 128 := by omega
  unfold Utf8.encode
  simp only [hv, if_true, hc, if_false]
  split
  · exact .inl ⟨_, _, rfl, by simp; omega⟩
  · split
    · exact .inr (.inl ⟨_, _, _, rfl⟩)
    · exact .inr (.inr ⟨_, _, _, _, rfl⟩)

/-- a zero byte or a slash -/
def bad (c : UInt8) : Bool := c == 0 || c == 47
theorem bad_high (c : UInt8) (h : 128 ≤ c.toNat) : bad c = false := by
  unfold bad
  rw [Bool.or_eq_false_iff]
  constructor <;> rw [beq_eq_false_iff_ne] <;> rintro rfl <;> simp at h
/-- none of the first i bytes is bad -/
def NoBad (s : ByteArray) (i : Nat) : Prop := ∀ j, j < i → ∀ c, s.data.toList[j]? = some c → bad c = false
theorem NoBad.zero (s : ByteArray) : NoBad s 0 := fun j h => absurd h (by omega)
theorem NoBad.succ {s : ByteArray} {i : Nat} (h : NoBad s i) (hi : i < s.size) (hb : bad (s.get! i) = false) : NoBad s (i + 1) := by
  intro j hj c hc
  rcases (by omega : j < i ∨ j = i) with h1 | rfl
  · exact h j h1 c hc
  · rw [get_some s j hi] at hc
    cases hc
    exact hb
theorem NoBad.skip {s : ByteArray} {i : Nat} (h : NoBad s i) (hi : i < s.size) (h128 : 128 ≤ (s.get! i).toNat) : NoBad s (i + (Utf8.decode s i).2) := by
  intro j hj c hc
  rcases Nat.lt_or_ge j i with h1 | h1
  · exact h j h1 c hc
  · have hs := decode_skip s i hi h128
    rw [get_some s j (by omega)] at hc
    cases hc
    exact bad_high _ (hs.2 j h1 hj)
theorem NoBad.all {s : ByteArray} (h : NoBad s s.size) : s.data.toList.any bad = false := by
  rw [List.any_eq_false]
  intro c hc
  obtain ⟨i, hi, rfl⟩ := List.getElem_of_mem hc
  rw [h i (by simpa using hi) _ (List.getElem?_eq_getElem hi)]
  simp
theorem any_bad_hit {s : ByteArray} {i : Nat} (hi : i < s.size) (hb : bad (s.get! i) = true) : s.data.toList.any bad = true :=
  List.any_eq_true.2 ⟨_, List.mem_of_getElem? (get_some s i hi), hb⟩
end Go.Proofs.YtfanfkogogijpaaGreatDoor
