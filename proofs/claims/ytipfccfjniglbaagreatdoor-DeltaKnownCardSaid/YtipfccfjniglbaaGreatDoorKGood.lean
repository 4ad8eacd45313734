/- The law DeltaKnown: crowds are trees. -/
import Derived.Test.YtipfccfjniglbaaGreatDoorKCrowd
namespace Go.Proofs.YtipfccfjniglbaaGreatDoor
def numOk (h : UInt8) (i : Nat) : Bool := itselfNo (numE h i) == 0 && parent (numE h i).path == [] && decide (compareP (numE h i).path (numE h (i + 1)).path < 0)
theorem num_lt {h : UInt8} (hk : ∀ i, i < 4096 → compareP (numE h i).path (numE h (i + 1)).path < 0) : ∀ j i, i < j → j ≤ 4096 → compareP (numE h i).path (numE h j).path < 0
  | 0, i, hi, _ => absurd hi (Nat.not_lt_zero _)
  | j + 1, i, hi, hj => by
    rcases Nat.lt_succ_iff_lt_or_eq.1 hi with h1 | h1
    · exact compareP_trans (num_lt hk j i h1 (by omega)) (hk j (by omega))
    · subst h1; exact hk i (by omega)
theorem crowd_mem {h : UInt8} {n : Nat} {e : Ent} (he : e ∈ crowdE h n) : ∃ i, i < n ∧ e = numE h i := by
  unfold crowdE at he
  obtain ⟨i, hi, rfl⟩ := List.mem_map.1 he
  exact ⟨i, List.mem_range.1 hi, rfl⟩
theorem crowd_bytes (h : UInt8) : ∀ n, bytesE (crowdE h n) = 0
  | 0 => rfl
  | n + 1 => by
    rw [crowdE_succ, bytesE_append, crowd_bytes h n, bytesE_cons]
    rfl
theorem crowd_good {h : UInt8} (hk : (List.range 4096).all (numOk h) = true) : Good (crowdE h 4096) := by
  have hk2 : ∀ i, i < 4096 → itselfNo (numE h i) = 0 ∧ parent (numE h i).path = [] ∧ compareP (numE h i).path (numE h (i + 1)).path < 0 := fun i hi => by
    have := List.all_eq_true.1 hk i (List.mem_range.2 hi)
    unfold numOk at this
    simp only [Bool.and_eq_true, beq_iff_eq, decide_eq_true_eq] at this
    exact ⟨this.1.1, this.1.2, this.2⟩
  have hlt := num_lt (fun i hi => (hk2 i hi).2.2)
  refine ⟨fun e he => ?_, fun e he => ?_, ?_, by rw [crowdE_len]; exact Nat.le_refl _, by rw [crowd_bytes]; decide⟩
  · obtain ⟨i, hi, rfl⟩ := crowd_mem he
    exact (hk2 i hi).1
  · obtain ⟨i, hi, rfl⟩ := crowd_mem he
    unfold upNo
    rw [if_pos (hk2 i hi).2.1]
  · have : ∀ n, n ≤ 4096 → (crowdE h n).Pairwise (fun a b => compareP a.path b.path < 0) := fun n => by
      induction n with
      | zero => intro _; exact List.Pairwise.nil
      | succ n ih =>
        intro hn
        rw [crowdE_succ]
        refine List.pairwise_append.2 ⟨ih (by omega), List.pairwise_singleton _ _, fun a ha b hb => ?_⟩
        rw [List.mem_singleton.1 hb]
        obtain ⟨i, hi, rfl⟩ := crowd_mem ha
        exact hlt n i hi (by omega)
    exact this 4096 (Nat.le_refl _)
end Go.Proofs.YtipfccfjniglbaaGreatDoor
