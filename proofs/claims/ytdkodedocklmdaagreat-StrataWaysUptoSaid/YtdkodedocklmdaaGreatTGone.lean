/- The heap of a tree from which a path is taken away with all below it. -/
import Derived.Test.YtdkodedocklmdaaGreatTStand
import Derived.Test.YtdkodedocklmdaaGreatTListed
set_option linter.unusedVariables false
set_option linter.unusedSimpArgs false
namespace Go.Proofs.YtdkodedocklmdaaGreat
open Go.RowKit Go.Maps Go.Shelf
open Go.Lib hiding intOf size_eq
def withoutN (nd : List Nd) (p : List UInt8) : List Nd := nd.filter (fun x => keepE p x.e)
theorem ents_without (nd : List Nd) (p : List UInt8) : ents (withoutN nd p) = withoutL (ents nd) p := by
  unfold ents withoutN withoutL
  rw [List.filter_map]
  rfl
theorem InOrder.inc {nd : List Nd} (h : Good (ents nd)) : InOrder nd := by
  have := h.inc
  unfold ents at this
  rw [List.pairwise_map] at this
  exact this
/-- is a kid of q away? where q is kept, only p itself is -/
theorem kid_kept {nd : List Nd} (hw : Wf nd) {p q : List UInt8} (hp : p ≠ []) (hq : q = [] ∨ (q ≠ p ∧ ¬ Under p q)) {x : Nd} (hx : x ∈ nd) (hxq : parent x.e.path = q) : keepE p x.e = !(x.e.path == p) := by
  unfold keepE
  have : belowP p x.e.path = false := by
    cases hb : belowP p x.e.path with
    | false => rfl
    | true =>
      exfalso
      have hu := (below_under hp).1 hb
      have hn := hw.ok x hx
      by_cases h1 : parent x.e.path = p
      · rcases hq with h2 | ⟨h2, _⟩
        · exact hp (h1.symm.trans (hxq.trans h2))
        · exact h2 (hxq.symm.trans h1)
      · obtain ⟨h2, h3⟩ := under_parent hn hu h1
        rw [hxq] at h2 h3
        rcases hq with h4 | ⟨_, h4⟩
        · exact h3 h4
        · exact h4 h2
  rw [this]
  simp
theorem kidN_without {nd : List Nd} (hw : Wf nd) {p q : List UInt8} (hp : Neat p) (hq : q = [] ∨ (q ≠ p ∧ ¬ Under p q)) (c : List UInt8) :
    kidN (withoutN nd p) q c = if q = parent p ∧ c = lastName p then none else kidN nd q c := by
  unfold kidN withoutN
  rw [List.find?_filter]
  by_cases h : q = parent p ∧ c = lastName p
  · rw [if_pos h, List.find?_eq_none]
    intro x hx hc
    simp only [Bool.and_eq_true, beq_iff_eq, decide_eq_true_eq] at hc
    have hk := hc.1
    rw [kid_kept hw hp.ne hq hx hc.2.1] at hk
    have : x.e.path = p := by rw [(hw.ok x hx).is_join, hp.is_join, hc.2.1, hc.2.2, h.1, h.2]
    rw [this] at hk
    simp at hk
  · rw [if_neg h]
    refine find_congr fun x hx => ?_
    by_cases hc : (parent x.e.path == q && lastName x.e.path == c) = true
    · rw [hc]
      simp only [Bool.and_eq_true, beq_iff_eq] at hc
      rw [kid_kept hw hp.ne hq hx hc.1]
      have : x.e.path ≠ p := fun e => h ⟨by rw [← hc.1, e], by rw [← hc.2, e]⟩
      simp [this]
    · rw [show (parent x.e.path == q && lastName x.e.path == c) = false by simpa using hc]
      simp
theorem own_tight {w : World} {b n : Nat} {D : DataW Nat} (h : w.ownsMap Tryz.prog 9 ptrElem b n D) : w.ownsMap Tryz.prog 9 ptrElem b (Maps.size D) D := by
  obtain ⟨es, clock, h1, h2, h3, h4⟩ := h
  refine ⟨es, clock, h1, h2, ?_, h4⟩
  rw [h4, size_eq, length_sorted, List.length_map]
  simp
theorem kids_size {w : World} {b n : Nat} {D : DataW Nat} (h : w.ownsMap Tryz.prog 9 ptrElem b n D) {nd : List Nd} (hw : Wf nd) (ho : InOrder nd) {q : List UInt8} (hD : KidsD D nd q) : Maps.size D ≤ nd.length := by
  have hperm := names_perm (h.canon Tryz.keyed_str) hw ho hD
  have h1 : (strKeys D).length = Maps.size D := by
    obtain ⟨es, rfl⟩ := h.isMap
    show (es.map _).length = es.length
    simp
  rw [← h1, ← hperm.length_eq, names_len]
  exact kids_len nd q
theorem KidsD.gone {D : DataW Nat} {nd : List Nd} {p : List UInt8} (h : KidsD D nd (parent p)) (hw : Wf nd) (hp : Neat p) : KidsD (D.del (.string (lastName p))) (withoutN nd p) (parent p) := by
  have hq : parent p = [] ∨ (parent p ≠ p ∧ ¬ Under p (parent p)) := by
    by_cases h0 : parent p = []
    · exact .inl h0
    · refine .inr ⟨fun e => ?_, fun hu => ?_⟩
      · have := parent_shorter hp.ne
        rw [e] at this
        omega
      · have h1 := under_less hp.ne hu
        have h2 := under_less h0 (under_kid hp rfl)
        exact compareP_irrefl _ (compareP_trans h1 h2)
  have hk := fun c => kidN_without hw hp hq c
  refine ⟨fun c => ?_, fun k hkk => ?_⟩
  · rw [hk]
    by_cases hc : c = lastName p
    · subst hc
      rw [if_pos ⟨rfl, rfl⟩, atKey_del_same]
      rfl
    · rw [if_neg (fun x => hc x.2), atKey_del_other (by intro x; exact hc (by injection x))]
      exact h.at_ c
  · by_cases hc : k = .string (lastName p)
    · subst hc
      rw [has_del_same] at hkk
      cases hkk
    · rw [has_del_other hc] at hkk
      obtain ⟨c, rfl, h2⟩ := h.has k hkk
      refine ⟨c, rfl, ?_⟩
      rw [hk, if_neg (fun x => hc (by rw [x.2]))]
      exact h2
theorem TreeAt.without {w w' : World} {T rt rm base : Nat} {nd : List Nd} (h : TreeAt w T rt rm base nd) {p : List UInt8} (hp : Neat p) (hup : upNo (ents nd) p = 0) {n : Nat} {D : DataW Nat} (hD : KidsD D nd (parent p))
    (hown : w'.ownsMap Tryz.prog 9 ptrElem (upM rm nd (parent p)) n (D.del (.string (lastName p))))
    (hT : w'.heap[T]? = some (.cells #[.pointer (some ⟨rt, 0, none⟩), .int .i64 ((withoutN nd p).length : Int), .int .i64 (bytesN (withoutN nd p) : Int)] 84 (0, 0)))
    (hs : ∀ b, b < w.heap.size → b ≠ T → b ≠ upM rm nd (parent p) → w'.heap[b]? = w.heap[b]?) : TreeAt w' T rt rm base (withoutN nd p) := by
  have hw := h.wf
  have hg : Good (ents (withoutN nd p)) := by rw [ents_without]; exact h.good.without hp.ne
  have hsub : ∀ x, x ∈ withoutN nd p → x ∈ nd ∧ keepE p x.e = true := fun x hx => List.mem_filter.1 hx
  have hmapU : ∃ es c, w.heap[upM rm nd (parent p)]? = some (.map es c) := by
    rcases upM_is rm nd (parent p) with e | ⟨z, hz, _, e⟩
    · rw [e]; exact h.rmap.is_map
    · rw [e]; exact (h.nmap z hz).is_map
  obtain ⟨es, ck, hmapU⟩ := hmapU
  have cellsOk : ∀ b cs t fz, w.heap[b]? = some (.cells cs t fz) → b ≠ T → w'.heap[b]? = some (.cells cs t fz) := fun b cs t fz hb hne => by
    rw [hs b (heap_lt hb) hne ?_]
    · exact hb
    · intro e
      rw [e, hmapU] at hb
      cases hb
  have notT : ∀ b e m, w.heap[b]? = some (nodeObj e m) → b ≠ T := fun b e m hb e2 => by
    rw [e2, h.tr] at hb
    unfold nodeObj at hb
    injection hb with hb
    injection hb with _ hb _
    cases hb
  have mapNotT : ∀ b, (∃ es c, w.heap[b]? = some (.map es c)) → b ≠ T := fun b ⟨es2, c2, hb⟩ e2 => by
    rw [e2, h.tr] at hb
    cases hb
  have hupk : KidsAt w' (upM rm nd (parent p)) (withoutN nd p) (parent p) :=
    ⟨_, _, own_tight hown, kids_size hown hg.wf (InOrder.inc hg) (hD.gone hw hp), hD.gone hw hp⟩
  -- maps of other places
  have other : ∀ m q, KidsAt w m nd q → m ≠ upM rm nd (parent p) → q ≠ parent p → (q = [] ∨ (q ≠ p ∧ ¬ Under p q)) → KidsAt w' m (withoutN nd p) q := fun m q hk hm hqp hq => by
    obtain ⟨n1, D1, h1, h2, h3⟩ := hk
    have hb : ∃ es c, w.heap[m]? = some (.map es c) := by obtain ⟨es, c, x, _⟩ := h1; exact ⟨es, c, x⟩
    have h1' : w'.ownsMap Tryz.prog 9 ptrElem m n1 D1 := by
      obtain ⟨es, c, x, y⟩ := h1
      exact ⟨es, c, by rw [hs m (heap_lt x) (mapNotT _ hb) hm]; exact x, y⟩
    have h4 : KidsD D1 (withoutN nd p) q := h3.congr (fun c => by rw [kidN_without hw hp hq, if_neg (fun x => hqp x.1)]) (fun c hc => by rw [kidN_without hw hp hq, if_neg (fun x => hqp x.1)]; exact hc)
    exact ⟨_, _, own_tight h1', kids_size h1' hg.wf (InOrder.inc hg) h4, h4⟩
  have upq : parent p = [] ∨ ∃ z, z ∈ nd ∧ z.e.path = parent p ∧ upM rm nd (parent p) = z.m := by
    by_cases h0 : parent p = []
    · exact .inl h0
    · unfold upNo at hup
      rw [if_neg h0, lookE_N] at hup
      cases hl : lookN nd (parent p) with
      | none => rw [hl] at hup; cases hup
      | some z => exact .inr ⟨z, (lookN_some hl).1, (lookN_some hl).2, upM_some h0 hl⟩
  refine RawAt.tree ⟨hg.wf, ?_, ?_, ?_, ?_, ?_, ?_, ?_⟩ hg hT
  · exact cellsOk _ _ _ _ h.root (notT _ _ _ h.root)
  · by_cases h0 : parent p = []
    · have := hupk
      rw [h0, upM_nil] at this
      exact this
    · refine other rm [] h.rmap (fun e => ?_) (fun e => h0 e.symm) (.inl rfl)
      rcases upq with h1 | ⟨z, hz, _, h1⟩
      · exact h0 h1
      · exact h.rno z hz (h1.symm.trans e.symm)
  · intro x hx
    exact cellsOk _ _ _ _ (h.node x (hsub x hx).1) (notT _ _ _ (h.node x (hsub x hx).1))
  · intro x hx
    obtain ⟨hx1, hx2⟩ := hsub x hx
    by_cases h1 : x.e.path = parent p
    · have hm : x.m = upM rm nd (parent p) := by
        rw [← h1, upM_some (hw.ok x hx1).ne (lookN_mem hw.one hx1)]
      rw [h1, hm]
      exact hupk
    · refine other x.m x.e.path (h.nmap x hx1) (fun e => ?_) h1 (.inr ⟨fun e => ?_, fun hu => ?_⟩)
      · rcases upq with h2 | ⟨z, hz, hzp, h2⟩
        · rw [h2, upM_nil] at e
          exact h.rno x hx1 e
        · have := pair_inj h.mno hx1 hz (e.trans h2)
          exact h1 (by rw [this]; exact hzp)
      · rw [keepE_false.2 (.inl e)] at hx2
        cases hx2
      · rw [keepE_false.2 (.inr ((below_under hp.ne).2 hu))] at hx2
        cases hx2
  · intro x hx
    exact h.rno x (hsub x hx).1
  · exact List.Pairwise.filter _ h.mno
  · exact ⟨h.lo.1, h.lo.2.1, h.lo.2.2.1, fun x hx => h.lo.2.2.2 x (hsub x hx).1⟩
end Go.Proofs.YtdkodedocklmdaaGreat
