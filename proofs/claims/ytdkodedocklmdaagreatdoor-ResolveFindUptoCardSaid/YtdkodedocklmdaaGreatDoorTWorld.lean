/- A tree in memory: its blocks, what stays, and what a new node makes of it. -/
import Derived.Test.YtdkodedocklmdaaGreatDoorTCheck
import Derived.Test.YtdkodedocklmdaaGreatDoorFKeep
import Derived.Test.YtdkodedocklmdaaGreatDoorSmall
import Derived.Maps.Own
import Derived.Maps.OwnSet
set_option linter.unusedVariables false
set_option linter.unusedSimpArgs false
namespace Go.Proofs.YtdkodedocklmdaaGreatDoor
open Go.RowKit Go.Maps
theorem Tryz.keyed_str : Keyed Tryz.prog 9 := string_keyed Tryz.underlying9
theorem Tryz.zero_node (w : World) : (zeroValue 97).run Tryz.prog w = .ok (.pointer none) w := by kernel_rfl
/-- a pointer to a node, as a map's element reads -/
def ptrElem : Value → Option (DataW Nat × List MemPlace)
  | .pointer (some ⟨b, 0, none⟩) => some (.lit (.int .i64 (b : Int)), [])
  | .pointer none => some (.nil, [])
  | _ => none
def nodP : Option Nd → Value
  | none => .pointer none
  | some y => .pointer (some ⟨y.b, 0, none⟩)
def nodD : Option Nd → DataW Nat
  | none => .nil
  | some y => .lit (.int .i64 (y.b : Int))
theorem ptrElem_nod (o : Option Nd) : ptrElem (nodP o) = some (nodD o, []) := by cases o <;> rfl
theorem ptrElem_inv {v : Value} {o : Option Nd} {ps : List MemPlace} (h : ptrElem v = some (nodD o, ps)) : v = nodP o := by
  unfold ptrElem at h
  split at h
  · rename_i b
    cases o with
    | none => simp [nodD] at h
    | some y =>
      simp [nodD] at h
      have : b = y.b := by have := h.1; omega
      rw [this]; rfl
  · cases o with
    | none => rfl
    | some y => simp [nodD] at h
  · cases h
/-- what a map of names reads as -/
structure KidsD (D : DataW Nat) (nd : List Nd) (q : List UInt8) : Prop where
  at_ : ∀ c, D.atKey (.string c) .nil = nodD (kidN nd q c)
  has : ∀ k, Maps.has D k = true → ∃ c, k = .string c ∧ kidN nd q c ≠ none
theorem kidN_nil (q c : List UInt8) : kidN [] q c = none := rfl
theorem kidN_append (nd : List Nd) (y : Nd) (q c : List UInt8) : kidN (nd ++ [y]) q c = (kidN nd q c).or (if parent y.e.path = q ∧ lastName y.e.path = c then some y else none) := by
  unfold kidN
  rw [List.find?_append, List.find?_cons, List.find?_nil]
  by_cases h : parent y.e.path = q ∧ lastName y.e.path = c
  · rw [if_pos h, h.1, h.2]; simp
  · rw [if_neg h]
    have : (parent y.e.path == q && lastName y.e.path == c) = false := by
      rw [Bool.and_eq_false_iff]
      by_cases h1 : parent y.e.path = q
      · exact .inr (by simpa using fun h2 => h ⟨h1, h2⟩)
      · exact .inl (by simpa using h1)
    rw [this]
theorem kidsD_empty {nd : List Nd} {q : List UInt8} (h : ∀ c, kidN nd q c = none) : KidsD (.map []) nd q :=
  ⟨fun c => by rw [h]; rfl, fun k hk => by cases hk⟩
theorem KidsD.other {D : DataW Nat} {nd : List Nd} {q : List UInt8} (h : KidsD D nd q) {y : Nd} (hy : parent y.e.path ≠ q) : KidsD D (nd ++ [y]) q := by
  have e : ∀ c, kidN (nd ++ [y]) q c = kidN nd q c := fun c => by
    rw [kidN_append, if_neg (fun x => hy x.1)]; simp
  exact ⟨fun c => by rw [e]; exact h.at_ c, fun k hk => by obtain ⟨c, h1, h2⟩ := h.has k hk; exact ⟨c, h1, by rw [e]; exact h2⟩⟩
theorem KidsD.put {D : DataW Nat} {nd : List Nd} {q : List UInt8} (h : KidsD D nd q) (hD : Maps.IsMap D) {y : Nd} (hy : parent y.e.path = q) (hno : kidN nd q (lastName y.e.path) = none) :
    KidsD (D.put (.string (lastName y.e.path)) (nodD (some y))) (nd ++ [y]) q := by
  have e1 : kidN (nd ++ [y]) q (lastName y.e.path) = some y := by rw [kidN_append, if_pos ⟨hy, rfl⟩, hno]; rfl
  have e2 : ∀ c, c ≠ lastName y.e.path → kidN (nd ++ [y]) q c = kidN nd q c := fun c hc => by
    rw [kidN_append, if_neg (fun x => hc x.2.symm)]; simp
  refine ⟨fun c => ?_, fun k hk => ?_⟩
  · by_cases hc : c = lastName y.e.path
    · subst hc
      rw [Maps.atKey_put_same hD (show WideAt.IsKeyLit (Lit.string (lastName y.e.path)) from trivial), e1]
    · rw [Maps.atKey_put_other (by intro x; exact hc (by injection x)), e2 c hc]
      exact h.at_ c
  · by_cases hc : k = .string (lastName y.e.path)
    · exact ⟨_, hc, by rw [e1]; simp⟩
    · rw [Maps.has_put_other hc] at hk
      obtain ⟨c, rfl, h2⟩ := h.has k hk
      exact ⟨c, rfl, by rw [e2 c (fun x => hc (by rw [x]))]; exact h2⟩
/-- the map of a directory's names stands -/
def KidsAt (w : World) (m : Nat) (nd : List Nd) (q : List UInt8) : Prop := ∃ (n : Nat) (D : DataW Nat), w.ownsMap Tryz.prog 9 ptrElem m n D ∧ n ≤ nd.length ∧ KidsD D nd q
theorem key_text {c : ByteArray} (hc : c.size ≤ maxLen) : keyOf Tryz.prog 9 (.string c) = some (.string c.data.toList) := WideMaps.keyOf_string_mk Tryz.underlying9 hc
theorem KidsAt.look {w : World} {m : Nat} {nd : List Nd} {q : List UInt8} (h : KidsAt w m nd q) {c : ByteArray} (hc : c.size ≤ maxLen) :
    (Instr.lookup 98 (.map (some m)) (.string c) false).run Tryz.prog w = .ok (nodP (kidN nd q c.data.toList)) w := by
  obtain ⟨n, D, hm, _, hD⟩ := h
  obtain ⟨v, ps, h1, h2⟩ := hm.lookup Tryz.keyed_str Tryz.underlying98 (Tryz.zero_node w) (zd := .nil) (zp := []) rfl (key_text hc)
  rw [h1]
  rw [hD.at_] at h2
  rw [ptrElem_inv h2]
theorem KidsAt.block {w w' : World} {m : Nat} {nd : List Nd} {q : List UInt8} (h : KidsAt w m nd q) (hb : ∀ es c, w.heap[m]? = some (.map es c) → w'.heap[m]? = some (.map es c)) : KidsAt w' m nd q := by
  obtain ⟨n, D, ⟨es, clock, h1, h2⟩, h3⟩ := h
  exact ⟨n, D, ⟨es, clock, hb es clock h1, h2⟩, h3⟩
theorem KidsAt.lt {w : World} {m : Nat} {nd : List Nd} {q : List UInt8} (h : KidsAt w m nd q) : m < w.heap.size := by
  obtain ⟨n, D, h1, _⟩ := h
  exact h1.lt
/-- the law of a look-up in such a map, for the walk -/
theorem wpList_lookup_kid {w : World} {ops : Array Oper} {rest : List Oper} {o : Oper} {a : Act} {Q : Exit → Act → World → Prop}
    (hg : o.guard = none) (m x : Operand) (hop : o.op = Op.lookup 98 m x false)
    (b : Nat) (nd : List Nd) (q : List UInt8) (hm : a.eval m = .map (some b)) (h : KidsAt w b nd q) (c : ByteArray) (hx : a.eval x = .string c) (hc : c.size ≤ maxLen)
    (hK : wpList Tryz.prog ops Q rest (a.put o.dst (nodP (kidN nd q c.data.toList))) w) :
    wpList Tryz.prog ops Q (o :: rest) a w := by
  refine wpList_plain hg fun K' hK' => ?_
  unfold Oper.wp
  simp [execOp, hop, hm, hx, h.look hc, Result.andThen]
  exact hK' _ _ hK
/-- a node's block -/
def nodeObj (e : Ent) (m : Nat) : Obj := .cells #[.string e.p, .int .i64 e.k, .int .i64 e.m, .string e.d, .string e.l, .map (some m)] 100 (0, 0)
def emp : ByteArray := ByteArray.empty
def rootE : Ent := ⟨emp, 1, 493, emp, emp⟩
def bytesN (nd : List Nd) : Nat := bytesE (ents nd)
/-- a tree stands -/
structure TreeAt (w : World) (T rt rm base : Nat) (nd : List Nd) : Prop where
  good : Good (ents nd)
  tr : w.heap[T]? = some (.cells #[.pointer (some ⟨rt, 0, none⟩), .int .i64 (nd.length : Int), .int .i64 (bytesN nd : Int)] 102 (0, 0))
  root : w.heap[rt]? = some (nodeObj rootE rm)
  rmap : KidsAt w rm nd []
  node : ∀ y ∈ nd, w.heap[y.b]? = some (nodeObj y.e y.m)
  nmap : ∀ y ∈ nd, KidsAt w y.m nd y.e.path
  rno : ∀ y ∈ nd, y.m ≠ rm
  mno : nd.Pairwise (fun a b => a.m ≠ b.m)
  lo : base ≤ T ∧ base ≤ rt ∧ base ≤ rm ∧ ∀ y ∈ nd, base ≤ y.b ∧ base ≤ y.m
/-- is this a block of the tree? -/
def IsBlk (T rt rm : Nat) (nd : List Nd) (b : Nat) : Prop := b = T ∨ b = rt ∨ b = rm ∨ ∃ y ∈ nd, b = y.b ∨ b = y.m
theorem TreeAt.lt {w : World} {T rt rm base : Nat} {nd : List Nd} (h : TreeAt w T rt rm base nd) {b : Nat} (hb : IsBlk T rt rm nd b) : b < w.heap.size := by
  rcases hb with rfl | rfl | rfl | ⟨y, hy, rfl | rfl⟩
  · exact heap_lt h.tr
  · exact heap_lt h.root
  · exact h.rmap.lt
  · exact heap_lt (h.node y hy)
  · exact (h.nmap y hy).lt
theorem TreeAt.base_le {w : World} {T rt rm base : Nat} {nd : List Nd} (h : TreeAt w T rt rm base nd) {b : Nat} (hb : IsBlk T rt rm nd b) : base ≤ b := by
  rcases hb with rfl | rfl | rfl | ⟨y, hy, rfl | rfl⟩
  · exact h.lo.1
  · exact h.lo.2.1
  · exact h.lo.2.2.1
  · exact (h.lo.2.2.2 y hy).1
  · exact (h.lo.2.2.2 y hy).2
/-- a world in which the tree's blocks are the same has the tree -/
theorem TreeAt.same {w w' : World} {T rt rm base : Nat} {nd : List Nd} (h : TreeAt w T rt rm base nd) (hb : ∀ b, IsBlk T rt rm nd b → w'.heap[b]? = w.heap[b]?) : TreeAt w' T rt rm base nd :=
  ⟨h.good, (hb T (.inl rfl)).trans h.tr, (hb rt (.inr (.inl rfl))).trans h.root, h.rmap.block (fun es c x => (hb rm (.inr (.inr (.inl rfl)))).trans x), fun y hy => (hb _ (.inr (.inr (.inr ⟨y, hy, .inl rfl⟩)))).trans (h.node y hy),
    fun y hy => (h.nmap y hy).block (fun es c x => (hb _ (.inr (.inr (.inr ⟨y, hy, .inr rfl⟩)))).trans x), h.rno, h.mno, h.lo⟩
theorem TreeAt.below {w w' : World} {T rt rm base B : Nat} {nd : List Nd} (h : TreeAt w T rt rm base nd) (hb : Below B w w') (hB : w.heap.size ≤ B) : TreeAt w' T rt rm base nd :=
  h.same fun b hx => hb.block b (Nat.lt_of_lt_of_le (h.lt hx) hB)
theorem TreeAt.drewN {w : World} {T rt rm base : Nat} {nd : List Nd} (h : TreeAt w T rt rm base nd) (n : Nat) : TreeAt (w.drewN n) T rt rm base nd := h.same fun b hx => rfl
theorem TreeAt.alloc {w : World} {T rt rm base : Nat} {nd : List Nd} (h : TreeAt w T rt rm base nd) (o : Obj) : TreeAt (w.alloc o) T rt rm base nd := h.same fun b hx => heap_alloc_old w o (h.lt hx)
theorem TreeAt.wf {w : World} {T rt rm base : Nat} {nd : List Nd} (h : TreeAt w T rt rm base nd) : Wf nd := h.good.wf
/- a new node -/
theorem ents_append (nd : List Nd) (y : Nd) : ents (nd ++ [y]) = ents nd ++ [y.e] := by simp [ents]
theorem ents_length (nd : List Nd) : (ents nd).length = nd.length := by simp [ents]
theorem bytesN_append (nd : List Nd) (y : Nd) : bytesN (nd ++ [y]) = bytesN nd + y.e.d.size := by unfold bytesN; rw [ents_append, bytesE_append]; simp [bytesE]
theorem pair_inj {α : Type} {f : α → Nat} : ∀ {l : List α}, l.Pairwise (fun a b => f a ≠ f b) → ∀ {x y : α}, x ∈ l → y ∈ l → f x = f y → x = y
  | [], _, _, _, hx, _, _ => by cases hx
  | a :: l, h, x, y, hx, hy, e => by
    obtain ⟨h1, h2⟩ := List.pairwise_cons.1 h
    rcases List.mem_cons.1 hx with hx1 | hx1 <;> rcases List.mem_cons.1 hy with hy1 | hy1
    · exact hx1.trans hy1.symm
    · subst hx1
      exact absurd e (h1 y hy1)
    · subst hy1
      exact absurd e.symm (h1 x hx1)
    · exact pair_inj h2 hx1 hy1 e
/-- the block of a directory's map -/
def upM (rm : Nat) (nd : List Nd) (q : List UInt8) : Nat := if q = [] then rm else match lookN nd q with
  | some z => z.m
  | none => rm
theorem upM_nil (rm : Nat) (nd : List Nd) : upM rm nd [] = rm := if_pos rfl
theorem upM_some {rm : Nat} {nd : List Nd} {q : List UInt8} {z : Nd} (hq : q ≠ []) (h : lookN nd q = some z) : upM rm nd q = z.m := by
  unfold upM
  rw [if_neg hq, h]
theorem upM_is (rm : Nat) (nd : List Nd) (q : List UInt8) : upM rm nd q = rm ∨ ∃ z, z ∈ nd ∧ z.e.path = q ∧ upM rm nd q = z.m := by
  unfold upM
  split
  · exact .inl rfl
  · cases h : lookN nd q with
    | none => exact .inl rfl
    | some z => exact .inr ⟨z, (lookN_some h).1, (lookN_some h).2, rfl⟩
theorem KidsAt.other {w : World} {m : Nat} {nd : List Nd} {q : List UInt8} (h : KidsAt w m nd q) {y : Nd} (hy : parent y.e.path ≠ q) : KidsAt w m (nd ++ [y]) q := by
  obtain ⟨n, D, h1, h2, h3⟩ := h
  exact ⟨n, D, h1, by simp; omega, h3.other hy⟩
theorem KidsAt.is_map {w : World} {m : Nat} {nd : List Nd} {q : List UInt8} (h : KidsAt w m nd q) : ∃ es c, w.heap[m]? = some (.map es c) := by
  obtain ⟨n, D, ⟨es, clock, h1, h2⟩, h3⟩ := h
  exact ⟨es, clock, h1⟩
theorem kids_none {nd : List Nd} {y : Nd} (h : Wf (nd ++ [y])) (h0 : Wf nd) (c : List UInt8) : kidN (nd ++ [y]) y.e.path c = none := by
  have hy : y ∈ nd ++ [y] := by simp
  have hne := (h.ok y hy).ne
  unfold kidN
  rw [List.find?_eq_none]
  intro x hx hc
  have hp : parent x.e.path = y.e.path := by
    have := (Bool.and_eq_true _ _ ▸ hc).1
    simpa using this
  rcases List.mem_append.1 hx with hx | hx
  · rcases h0.up x hx with h1 | ⟨z, hz, h1, _⟩
    · rw [hp] at h1; exact hne h1
    · exact (List.pairwise_append.1 h.one).2.2 z hz y (List.mem_singleton.2 rfl) (h1.trans hp)
  · rw [List.mem_singleton.1 hx] at hp
    have := parent_shorter hne
    rw [hp] at this
    omega
theorem TreeAt.add {w w' : World} {T rt rm base : Nat} {nd : List Nd} (h : TreeAt w T rt rm base nd) {y : Nd} (hg : Good (ents (nd ++ [y])))
    (hT : w'.heap[T]? = some (.cells #[.pointer (some ⟨rt, 0, none⟩), .int .i64 ((nd.length : Int) + 1), .int .i64 ((bytesN nd : Int) + (y.e.d.size : Int))] 102 (0, 0)))
    (hm : KidsAt w' (upM rm nd (parent y.e.path)) (nd ++ [y]) (parent y.e.path))
    (hn : w'.heap[y.b]? = some (nodeObj y.e y.m)) (hk : w'.ownsMap Tryz.prog 9 ptrElem y.m 0 (.map []))
    (hs : ∀ b, b < w.heap.size → b ≠ T → b ≠ upM rm nd (parent y.e.path) → w'.heap[b]? = w.heap[b]?)
    (hb1 : w.heap.size ≤ y.b) (hb2 : w.heap.size ≤ y.m) : TreeAt w' T rt rm base (nd ++ [y]) := by
  have hw := h.wf
  have hw2 := hg.wf
  have hyn := hw2.ok y (by simp)
  have hup : upM rm nd (parent y.e.path) = rm ∨ ∃ z, z ∈ nd ∧ z.e.path = parent y.e.path ∧ upM rm nd (parent y.e.path) = z.m := upM_is _ _ _
  have hmapU : ∃ es c, w.heap[upM rm nd (parent y.e.path)]? = some (.map es c) := by
    rcases hup with e | ⟨z, hz, _, e⟩
    · rw [e]; exact h.rmap.is_map
    · rw [e]; exact (h.nmap z hz).is_map
  obtain ⟨es, ck, hmapU⟩ := hmapU
  have cellsOk : ∀ b cs t fz, w.heap[b]? = some (.cells cs t fz) → b ≠ T → w'.heap[b]? = some (.cells cs t fz) := fun b cs t fz hb hne => by
    rw [hs b (heap_lt hb) hne ?_]
    · exact hb
    · intro e
      rw [e, hmapU] at hb
      cases hb
  have notT : ∀ b e m, w.heap[b]? = some (nodeObj e m) → b ≠ T := fun b e m hb e2 => by
    rw [e2, h.tr] at hb
    unfold nodeObj at hb
    injection hb with hb
    injection hb with _ hb _
    cases hb
  have mapNotT : ∀ b, (∃ es c, w.heap[b]? = some (.map es c)) → b ≠ T := fun b ⟨es2, c2, hb⟩ e2 => by
    rw [e2, h.tr] at hb
    cases hb
  refine ⟨hg, ?_, ?_, ?_, ?_, ?_, ?_, ?_, ?_⟩
  · rw [hT, bytesN_append]
    simp
  · exact cellsOk _ _ _ _ h.root (notT _ _ _ h.root)
  · by_cases h0 : parent y.e.path = []
    · rw [h0, upM_nil] at hm
      exact hm
    · refine KidsAt.other (h.rmap.block fun es2 c2 hb => ?_) h0
      rw [hs rm (heap_lt hb) (mapNotT _ ⟨_, _, hb⟩) ?_]
      · exact hb
      · intro e
        rcases upM_is rm nd (parent y.e.path) with e1 | ⟨z, hz, _, e1⟩
        · rcases hw2.up y (by simp) with h1 | ⟨z, hz, h1, _⟩
          · exact h0 h1
          · rcases List.mem_append.1 hz with hz | hz
            · have hl := lookN_mem hw.one hz
              rw [h1] at hl
              rw [upM_some h0 hl] at e
              exact h.rno z hz e.symm
            · rw [List.mem_singleton.1 hz] at h1
              have := parent_shorter hyn.ne
              rw [← h1] at this
              omega
        · exact h.rno z hz (e1.symm.trans e.symm)
  · intro x hx
    rcases List.mem_append.1 hx with hx | hx
    · exact cellsOk _ _ _ _ (h.node x hx) (notT _ _ _ (h.node x hx))
    · rw [List.mem_singleton.1 hx]; exact hn
  · intro x hx
    rcases List.mem_append.1 hx with hx | hx
    · have hxn := hw.ok x hx
      by_cases hp : parent y.e.path = x.e.path
      · have hl := lookN_mem hw.one hx
        rw [hp, upM_some hxn.ne hl] at hm
        exact hm
      · refine KidsAt.other ((h.nmap x hx).block fun es2 c2 hb => ?_) hp
        rw [hs x.m (heap_lt hb) (mapNotT _ ⟨_, _, hb⟩) ?_]
        · exact hb
        · intro e
          rcases upM_is rm nd (parent y.e.path) with e1 | ⟨z, hz, hz2, e1⟩
          · exact h.rno x hx (e.trans e1)
          · have := pair_inj h.mno hx hz (e.trans e1)
            rw [← this] at hz2
            exact hp hz2.symm
    · rw [List.mem_singleton.1 hx]
      exact ⟨0, _, hk, Nat.zero_le _, kidsD_empty (kids_none hw2 hw)⟩
  · intro x hx
    rcases List.mem_append.1 hx with hx | hx
    · exact h.rno x hx
    · rw [List.mem_singleton.1 hx]
      have := h.rmap.lt
      omega
  · rw [List.pairwise_append]
    refine ⟨h.mno, List.pairwise_singleton _ _, fun a ha b hb => ?_⟩
    rw [List.mem_singleton.1 hb]
    have := (h.nmap a ha).lt
    omega
  · refine ⟨h.lo.1, h.lo.2.1, h.lo.2.2.1, fun x hx => ?_⟩
    rcases List.mem_append.1 hx with hx | hx
    · exact h.lo.2.2.2 x hx
    · rw [List.mem_singleton.1 hx]
      have := h.lo.1
      have := heap_lt h.tr
      omega
end Go.Proofs.YtdkodedocklmdaaGreatDoor
