/- A tree in memory, plain and raw (TWorld, TSeek, TRaw, TLoad). -/
import Derived.Test.YtfanfkogogijpaaGreatDoorTCheck
import Derived.Test.YtfanfkogogijpaaGreatDoorFKeep
import Derived.Test.YtfanfkogogijpaaGreatDoorSmall
import Derived.Test.YtfanfkogogijpaaGreatDoorTOrd2
import Derived.Maps.Own
import Derived.Maps.OwnSet
import Derived.Deep.Slices
set_option linter.unusedSimpArgs false
set_option linter.unusedVariables false
namespace Go.Proofs.YtfanfkogogijpaaGreatDoor
section
open Go.RowKit Go.Maps
theorem Tryz.keyed_str : Keyed Tryz.prog 9 := string_keyed Tryz.underlying9
theorem Tryz.zero_node (w : World) : (zeroValue 66).run Tryz.prog w = .ok (.pointer none) w := by kernel_rfl
/-- a pointer to a node, as a map's element reads -/
def ptrElem : Value → Option (DataW Nat × List MemPlace)
  | .pointer (some ⟨b, 0, none⟩) => some (.lit (.int .i64 (b : Int)), [])
  | .pointer none => some (.nil, [])
  | _ => none
def nodP : Option Nd → Value
  | none => .pointer none
  | some y => .pointer (some ⟨y.b, 0, none⟩)
def nodD : Option Nd → DataW Nat
  | none => .nil
  | some y => .lit (.int .i64 (y.b : Int))
theorem ptrElem_nod (o : Option Nd) : ptrElem (nodP o) = some (nodD o, []) := by cases o <;> rfl
theorem ptrElem_inv {v : Value} {o : Option Nd} {ps : List MemPlace} (h : ptrElem v = some (nodD o, ps)) : v = nodP o := by
  unfold ptrElem at h
  split at h
  · rename_i b
    cases o with
    | none => simp [nodD] at h
    | some y =>
      simp [nodD] at h
      have : b = y.b := by have := h.1; omega
      rw [this]; rfl
  · cases o with
    | none => rfl
    | some y => simp [nodD] at h
  · cases h
/-- what a map of names reads as -/
structure KidsD (D : DataW Nat) (nd : List Nd) (q : List UInt8) : Prop where
  at_ : ∀ c, D.atKey (.string c) .nil = nodD (kidN nd q c)
  has : ∀ k, Maps.has D k = true → ∃ c, k = .string c ∧ kidN nd q c ≠ none
theorem kidN_nil (q c : List UInt8) : kidN [] q c = none := rfl
theorem kidN_append (nd : List Nd) (y : Nd) (q c : List UInt8) : kidN (nd ++ [y]) q c = (kidN nd q c).or (if parent y.e.path = q ∧ lastName y.e.path = c then some y else none) := by
  unfold kidN
  rw [List.find?_append, List.find?_cons, List.find?_nil]
  by_cases h : parent y.e.path = q ∧ lastName y.e.path = c
  · rw [if_pos h, h.1, h.2]; simp
  · rw [if_neg h]
    have : (parent y.e.path == q && lastName y.e.path == c) = false := by
      rw [Bool.and_eq_false_iff]
      by_cases h1 : parent y.e.path = q
      · exact .inr (by simpa using fun h2 => h ⟨h1, h2⟩)
      · exact .inl (by simpa using h1)
    rw [this]
theorem kidsD_empty {nd : List Nd} {q : List UInt8} (h : ∀ c, kidN nd q c = none) : KidsD (.map []) nd q :=
  ⟨fun c => by rw [h]; rfl, fun k hk => by cases hk⟩
theorem KidsD.other {D : DataW Nat} {nd : List Nd} {q : List UInt8} (h : KidsD D nd q) {y : Nd} (hy : parent y.e.path ≠ q) : KidsD D (nd ++ [y]) q := by
  have e : ∀ c, kidN (nd ++ [y]) q c = kidN nd q c := fun c => by
    rw [kidN_append, if_neg (fun x => hy x.1)]; simp
  exact ⟨fun c => by rw [e]; exact h.at_ c, fun k hk => by obtain ⟨c, h1, h2⟩ := h.has k hk; exact ⟨c, h1, by rw [e]; exact h2⟩⟩
theorem KidsD.put {D : DataW Nat} {nd : List Nd} {q : List UInt8} (h : KidsD D nd q) (hD : Maps.IsMap D) {y : Nd} (hy : parent y.e.path = q) (hno : kidN nd q (lastName y.e.path) = none) :
    KidsD (D.put (.string (lastName y.e.path)) (nodD (some y))) (nd ++ [y]) q := by
  have e1 : kidN (nd ++ [y]) q (lastName y.e.path) = some y := by rw [kidN_append, if_pos ⟨hy, rfl⟩, hno]; rfl
  have e2 : ∀ c, c ≠ lastName y.e.path → kidN (nd ++ [y]) q c = kidN nd q c := fun c hc => by
    rw [kidN_append, if_neg (fun x => hc x.2.symm)]; simp
  refine ⟨fun c => ?_, fun k hk => ?_⟩
  · by_cases hc : c = lastName y.e.path
    · subst hc
      rw [Maps.atKey_put_same hD (show WideAt.IsKeyLit (Lit.string (lastName y.e.path)) from trivial), e1]
    · rw [Maps.atKey_put_other (by intro x; exact hc (by injection x)), e2 c hc]
      exact h.at_ c
  · by_cases hc : k = .string (lastName y.e.path)
    · exact ⟨_, hc, by rw [e1]; simp⟩
    · rw [Maps.has_put_other hc] at hk
      obtain ⟨c, rfl, h2⟩ := h.has k hk
      exact ⟨c, rfl, by rw [e2 c (fun x => hc (by rw [x]))]; exact h2⟩
/-- the map of a directory's names stands -/
def KidsAt (w : World) (m : Nat) (nd : List Nd) (q : List UInt8) : Prop := ∃ (n : Nat) (D : DataW Nat), w.ownsMap Tryz.prog 9 ptrElem m n D ∧ n ≤ nd.length ∧ KidsD D nd q
theorem key_text {c : ByteArray} (hc : c.size ≤ maxLen) : keyOf Tryz.prog 9 (.string c) = some (.string c.data.toList) := WideMaps.keyOf_string_mk Tryz.underlying9 hc
theorem KidsAt.look {w : World} {m : Nat} {nd : List Nd} {q : List UInt8} (h : KidsAt w m nd q) {c : ByteArray} (hc : c.size ≤ maxLen) :
    (Instr.lookup 87 (.map (some m)) (.string c) false).run Tryz.prog w = .ok (nodP (kidN nd q c.data.toList)) w := by
  obtain ⟨n, D, hm, _, hD⟩ := h
  obtain ⟨v, ps, h1, h2⟩ := hm.lookup Tryz.keyed_str Tryz.underlying87 (Tryz.zero_node w) (zd := .nil) (zp := []) rfl (key_text hc)
  rw [h1]
  rw [hD.at_] at h2
  rw [ptrElem_inv h2]
theorem KidsAt.block {w w' : World} {m : Nat} {nd : List Nd} {q : List UInt8} (h : KidsAt w m nd q) (hb : ∀ es c, w.heap[m]? = some (.map es c) → w'.heap[m]? = some (.map es c)) : KidsAt w' m nd q := by
  obtain ⟨n, D, ⟨es, clock, h1, h2⟩, h3⟩ := h
  exact ⟨n, D, ⟨es, clock, hb es clock h1, h2⟩, h3⟩
theorem KidsAt.lt {w : World} {m : Nat} {nd : List Nd} {q : List UInt8} (h : KidsAt w m nd q) : m < w.heap.size := by
  obtain ⟨n, D, h1, _⟩ := h
  exact h1.lt
/-- the law of a look-up in such a map, for the walk -/
theorem wpList_lookup_kid {w : World} {ops : Array Oper} {rest : List Oper} {o : Oper} {a : Act} {Q : Exit → Act → World → Prop}
    (hg : o.guard = none) (m x : Operand) (hop : o.op = Op.lookup 87 m x false)
    (b : Nat) (nd : List Nd) (q : List UInt8) (hm : a.eval m = .map (some b)) (h : KidsAt w b nd q) (c : ByteArray) (hx : a.eval x = .string c) (hc : c.size ≤ maxLen)
    (hK : wpList Tryz.prog ops Q rest (a.put o.dst (nodP (kidN nd q c.data.toList))) w) :
    wpList Tryz.prog ops Q (o :: rest) a w := by
  refine wpList_plain hg fun K' hK' => ?_
  unfold Oper.wp
  simp [execOp, hop, hm, hx, h.look hc, Result.andThen]
  exact hK' _ _ hK
/-- a node's block -/
def nodeObj (e : Ent) (m : Nat) : Obj := .cells #[.string e.p, .int .i64 e.k, .int .i64 e.m, .string e.d, .string e.l, .map (some m)] 89 (0, 0)
def emp : ByteArray := ByteArray.empty
def rootE : Ent := ⟨emp, 1, 493, emp, emp⟩
def bytesN (nd : List Nd) : Nat := bytesE (ents nd)
/-- a tree stands -/
structure TreeAt (w : World) (T rt rm base : Nat) (nd : List Nd) : Prop where
  good : Good (ents nd)
  tr : w.heap[T]? = some (.cells #[.pointer (some ⟨rt, 0, none⟩), .int .i64 (nd.length : Int), .int .i64 (bytesN nd : Int)] 91 (0, 0))
  root : w.heap[rt]? = some (nodeObj rootE rm)
  rmap : KidsAt w rm nd []
  node : ∀ y ∈ nd, w.heap[y.b]? = some (nodeObj y.e y.m)
  nmap : ∀ y ∈ nd, KidsAt w y.m nd y.e.path
  rno : ∀ y ∈ nd, y.m ≠ rm
  mno : nd.Pairwise (fun a b => a.m ≠ b.m)
  lo : base ≤ T ∧ base ≤ rt ∧ base ≤ rm ∧ ∀ y ∈ nd, base ≤ y.b ∧ base ≤ y.m
/-- is this a block of the tree? -/
def IsBlk (T rt rm : Nat) (nd : List Nd) (b : Nat) : Prop := b = T ∨ b = rt ∨ b = rm ∨ ∃ y ∈ nd, b = y.b ∨ b = y.m
theorem TreeAt.lt {w : World} {T rt rm base : Nat} {nd : List Nd} (h : TreeAt w T rt rm base nd) {b : Nat} (hb : IsBlk T rt rm nd b) : b < w.heap.size := by
  rcases hb with rfl | rfl | rfl | ⟨y, hy, rfl | rfl⟩
  · exact heap_lt h.tr
  · exact heap_lt h.root
  · exact h.rmap.lt
  · exact heap_lt (h.node y hy)
  · exact (h.nmap y hy).lt
theorem TreeAt.base_le {w : World} {T rt rm base : Nat} {nd : List Nd} (h : TreeAt w T rt rm base nd) {b : Nat} (hb : IsBlk T rt rm nd b) : base ≤ b := by
  rcases hb with rfl | rfl | rfl | ⟨y, hy, rfl | rfl⟩
  · exact h.lo.1
  · exact h.lo.2.1
  · exact h.lo.2.2.1
  · exact (h.lo.2.2.2 y hy).1
  · exact (h.lo.2.2.2 y hy).2
/-- a world in which the tree's blocks are the same has the tree -/
theorem TreeAt.same {w w' : World} {T rt rm base : Nat} {nd : List Nd} (h : TreeAt w T rt rm base nd) (hb : ∀ b, IsBlk T rt rm nd b → w'.heap[b]? = w.heap[b]?) : TreeAt w' T rt rm base nd :=
  ⟨h.good, (hb T (.inl rfl)).trans h.tr, (hb rt (.inr (.inl rfl))).trans h.root, h.rmap.block (fun es c x => (hb rm (.inr (.inr (.inl rfl)))).trans x), fun y hy => (hb _ (.inr (.inr (.inr ⟨y, hy, .inl rfl⟩)))).trans (h.node y hy),
    fun y hy => (h.nmap y hy).block (fun es c x => (hb _ (.inr (.inr (.inr ⟨y, hy, .inr rfl⟩)))).trans x), h.rno, h.mno, h.lo⟩
theorem TreeAt.below {w w' : World} {T rt rm base B : Nat} {nd : List Nd} (h : TreeAt w T rt rm base nd) (hb : Below B w w') (hB : w.heap.size ≤ B) : TreeAt w' T rt rm base nd :=
  h.same fun b hx => hb.block b (Nat.lt_of_lt_of_le (h.lt hx) hB)
theorem TreeAt.drewN {w : World} {T rt rm base : Nat} {nd : List Nd} (h : TreeAt w T rt rm base nd) (n : Nat) : TreeAt (w.drewN n) T rt rm base nd := h.same fun b hx => rfl
theorem TreeAt.alloc {w : World} {T rt rm base : Nat} {nd : List Nd} (h : TreeAt w T rt rm base nd) (o : Obj) : TreeAt (w.alloc o) T rt rm base nd := h.same fun b hx => heap_alloc_old w o (h.lt hx)
theorem TreeAt.wf {w : World} {T rt rm base : Nat} {nd : List Nd} (h : TreeAt w T rt rm base nd) : Wf nd := h.good.wf
/- a new node -/
theorem ents_append (nd : List Nd) (y : Nd) : ents (nd ++ [y]) = ents nd ++ [y.e] := by simp [ents]
theorem ents_length (nd : List Nd) : (ents nd).length = nd.length := by simp [ents]
theorem bytesN_append (nd : List Nd) (y : Nd) : bytesN (nd ++ [y]) = bytesN nd + y.e.d.size := by unfold bytesN; rw [ents_append, bytesE_append]; simp [bytesE]
theorem pair_inj {α : Type} {f : α → Nat} : ∀ {l : List α}, l.Pairwise (fun a b => f a ≠ f b) → ∀ {x y : α}, x ∈ l → y ∈ l → f x = f y → x = y
  | [], _, _, _, hx, _, _ => by cases hx
  | a :: l, h, x, y, hx, hy, e => by
    obtain ⟨h1, h2⟩ := List.pairwise_cons.1 h
    rcases List.mem_cons.1 hx with hx1 | hx1 <;> rcases List.mem_cons.1 hy with hy1 | hy1
    · exact hx1.trans hy1.symm
    · subst hx1
      exact absurd e (h1 y hy1)
    · subst hy1
      exact absurd e.symm (h1 x hx1)
    · exact pair_inj h2 hx1 hy1 e
/-- the block of a directory's map -/
def upM (rm : Nat) (nd : List Nd) (q : List UInt8) : Nat := if q = [] then rm else match lookN nd q with
  | some z => z.m
  | none => rm
theorem upM_nil (rm : Nat) (nd : List Nd) : upM rm nd [] = rm := if_pos rfl
theorem upM_some {rm : Nat} {nd : List Nd} {q : List UInt8} {z : Nd} (hq : q ≠ []) (h : lookN nd q = some z) : upM rm nd q = z.m := by
  unfold upM
  rw [if_neg hq, h]
theorem upM_is (rm : Nat) (nd : List Nd) (q : List UInt8) : upM rm nd q = rm ∨ ∃ z, z ∈ nd ∧ z.e.path = q ∧ upM rm nd q = z.m := by
  unfold upM
  split
  · exact .inl rfl
  · cases h : lookN nd q with
    | none => exact .inl rfl
    | some z => exact .inr ⟨z, (lookN_some h).1, (lookN_some h).2, rfl⟩
theorem KidsAt.other {w : World} {m : Nat} {nd : List Nd} {q : List UInt8} (h : KidsAt w m nd q) {y : Nd} (hy : parent y.e.path ≠ q) : KidsAt w m (nd ++ [y]) q := by
  obtain ⟨n, D, h1, h2, h3⟩ := h
  exact ⟨n, D, h1, by simp; omega, h3.other hy⟩
theorem KidsAt.is_map {w : World} {m : Nat} {nd : List Nd} {q : List UInt8} (h : KidsAt w m nd q) : ∃ es c, w.heap[m]? = some (.map es c) := by
  obtain ⟨n, D, ⟨es, clock, h1, h2⟩, h3⟩ := h
  exact ⟨es, clock, h1⟩
theorem kids_none {nd : List Nd} {y : Nd} (h : Wf (nd ++ [y])) (h0 : Wf nd) (c : List UInt8) : kidN (nd ++ [y]) y.e.path c = none := by
  have hy : y ∈ nd ++ [y] := by simp
  have hne := (h.ok y hy).ne
  unfold kidN
  rw [List.find?_eq_none]
  intro x hx hc
  have hp : parent x.e.path = y.e.path := by
    have := (Bool.and_eq_true _ _ ▸ hc).1
    simpa using this
  rcases List.mem_append.1 hx with hx | hx
  · rcases h0.up x hx with h1 | ⟨z, hz, h1, _⟩
    · rw [hp] at h1; exact hne h1
    · exact (List.pairwise_append.1 h.one).2.2 z hz y (List.mem_singleton.2 rfl) (h1.trans hp)
  · rw [List.mem_singleton.1 hx] at hp
    have := parent_shorter hne
    rw [hp] at this
    omega
theorem TreeAt.add {w w' : World} {T rt rm base : Nat} {nd : List Nd} (h : TreeAt w T rt rm base nd) {y : Nd} (hg : Good (ents (nd ++ [y])))
    (hT : w'.heap[T]? = some (.cells #[.pointer (some ⟨rt, 0, none⟩), .int .i64 ((nd.length : Int) + 1), .int .i64 ((bytesN nd : Int) + (y.e.d.size : Int))] 91 (0, 0)))
    (hm : KidsAt w' (upM rm nd (parent y.e.path)) (nd ++ [y]) (parent y.e.path))
    (hn : w'.heap[y.b]? = some (nodeObj y.e y.m)) (hk : w'.ownsMap Tryz.prog 9 ptrElem y.m 0 (.map []))
    (hs : ∀ b, b < w.heap.size → b ≠ T → b ≠ upM rm nd (parent y.e.path) → w'.heap[b]? = w.heap[b]?)
    (hb1 : w.heap.size ≤ y.b) (hb2 : w.heap.size ≤ y.m) : TreeAt w' T rt rm base (nd ++ [y]) := by
  have hw := h.wf
  have hw2 := hg.wf
  have hyn := hw2.ok y (by simp)
  have hup : upM rm nd (parent y.e.path) = rm ∨ ∃ z, z ∈ nd ∧ z.e.path = parent y.e.path ∧ upM rm nd (parent y.e.path) = z.m := upM_is _ _ _
  have hmapU : ∃ es c, w.heap[upM rm nd (parent y.e.path)]? = some (.map es c) := by
    rcases hup with e | ⟨z, hz, _, e⟩
    · rw [e]; exact h.rmap.is_map
    · rw [e]; exact (h.nmap z hz).is_map
  obtain ⟨es, ck, hmapU⟩ := hmapU
  have cellsOk : ∀ b cs t fz, w.heap[b]? = some (.cells cs t fz) → b ≠ T → w'.heap[b]? = some (.cells cs t fz) := fun b cs t fz hb hne => by
    rw [hs b (heap_lt hb) hne ?_]
    · exact hb
    · intro e
      rw [e, hmapU] at hb
      cases hb
  have notT : ∀ b e m, w.heap[b]? = some (nodeObj e m) → b ≠ T := fun b e m hb e2 => by
    rw [e2, h.tr] at hb
    unfold nodeObj at hb
    injection hb with hb
    injection hb with _ hb _
    cases hb
  have mapNotT : ∀ b, (∃ es c, w.heap[b]? = some (.map es c)) → b ≠ T := fun b ⟨es2, c2, hb⟩ e2 => by
    rw [e2, h.tr] at hb
    cases hb
  refine ⟨hg, ?_, ?_, ?_, ?_, ?_, ?_, ?_, ?_⟩
  · rw [hT, bytesN_append]
    simp
  · exact cellsOk _ _ _ _ h.root (notT _ _ _ h.root)
  · by_cases h0 : parent y.e.path = []
    · rw [h0, upM_nil] at hm
      exact hm
    · refine KidsAt.other (h.rmap.block fun es2 c2 hb => ?_) h0
      rw [hs rm (heap_lt hb) (mapNotT _ ⟨_, _, hb⟩) ?_]
      · exact hb
      · intro e
        rcases upM_is rm nd (parent y.e.path) with e1 | ⟨z, hz, _, e1⟩
        · rcases hw2.up y (by simp) with h1 | ⟨z, hz, h1, _⟩
          · exact h0 h1
          · rcases List.mem_append.1 hz with hz | hz
            · have hl := lookN_mem hw.one hz
              rw [h1] at hl
              rw [upM_some h0 hl] at e
              exact h.rno z hz e.symm
            · rw [List.mem_singleton.1 hz] at h1
              have := parent_shorter hyn.ne
              rw [← h1] at this
              omega
        · exact h.rno z hz (e1.symm.trans e.symm)
  · intro x hx
    rcases List.mem_append.1 hx with hx | hx
    · exact cellsOk _ _ _ _ (h.node x hx) (notT _ _ _ (h.node x hx))
    · rw [List.mem_singleton.1 hx]; exact hn
  · intro x hx
    rcases List.mem_append.1 hx with hx | hx
    · have hxn := hw.ok x hx
      by_cases hp : parent y.e.path = x.e.path
      · have hl := lookN_mem hw.one hx
        rw [hp, upM_some hxn.ne hl] at hm
        exact hm
      · refine KidsAt.other ((h.nmap x hx).block fun es2 c2 hb => ?_) hp
        rw [hs x.m (heap_lt hb) (mapNotT _ ⟨_, _, hb⟩) ?_]
        · exact hb
        · intro e
          rcases upM_is rm nd (parent y.e.path) with e1 | ⟨z, hz, hz2, e1⟩
          · exact h.rno x hx (e.trans e1)
          · have := pair_inj h.mno hx hz (e.trans e1)
            rw [← this] at hz2
            exact hp hz2.symm
    · rw [List.mem_singleton.1 hx]
      exact ⟨0, _, hk, Nat.zero_le _, kidsD_empty (kids_none hw2 hw)⟩
  · intro x hx
    rcases List.mem_append.1 hx with hx | hx
    · exact h.rno x hx
    · rw [List.mem_singleton.1 hx]
      have := h.rmap.lt
      omega
  · rw [List.pairwise_append]
    refine ⟨h.mno, List.pairwise_singleton _ _, fun a ha b hb => ?_⟩
    rw [List.mem_singleton.1 hb]
    have := (h.nmap a ha).lt
    omega
  · refine ⟨h.lo.1, h.lo.2.1, h.lo.2.2.1, fun x hx => ?_⟩
    rcases List.mem_append.1 hx with hx | hx
    · exact h.lo.2.2.2 x hx
    · rw [List.mem_singleton.1 hx]
      have := h.lo.1
      have := heap_lt h.tr
      omega
end
section
/-- a spot: nothing, the root, a node -/
def spotP (rt : Nat) : Option (Option Nd) → Value
  | none => .pointer none
  | some none => .pointer (some ⟨rt, 0, none⟩)
  | some (some y) => .pointer (some ⟨y.b, 0, none⟩)
def spotB (rt : Nat) : Option Nd → Nat
  | none => rt
  | some y => y.b
def spotM (rm : Nat) : Option Nd → Nat
  | none => rm
  | some y => y.m
def spotE : Option Nd → Ent
  | none => rootE
  | some y => y.e
def spotQ : Option Nd → List UInt8
  | none => []
  | some y => y.e.path
theorem spotP_some (rt : Nat) (o : Option Nd) : spotP rt (some o) = .pointer (some ⟨spotB rt o, 0, none⟩) := by cases o <;> rfl
def findO (nd : List Nd) (P : List UInt8) : Option (Option Nd) := if P = [] then some none else (lookN nd P).map some
inductive SeekW (nd : List Nd) (P : List UInt8) : Option (Option Nd) → List UInt8 → Prop
  | lost (h : lookN nd P = none) (hP : P ≠ []) (p : List UInt8) : SeekW nd P none p
  | root : SeekW nd P (some none) P
  | way (q p : List UInt8) (y : Nd) (h : lookN nd q = some y) (hp : p ≠ []) (h2 : joinP q p = P) : SeekW nd P (some (some y)) p
  | done (y : Nd) (h : lookN nd P = some y) : SeekW nd P (some (some y)) []
/-- is this spot one of the tree's? -/
def SpotIn (nd : List Nd) : Option Nd → Prop
  | none => True
  | some y => y ∈ nd
theorem SeekW.there {nd : List Nd} {P p : List UInt8} {o : Option Nd} (h : SeekW nd P (some o) p) : SpotIn nd o := by
  cases h with
  | root => trivial
  | way q p y h hp h2 => exact (lookN_some h).1
  | done y h => exact (lookN_some h).1
theorem SeekW.none_is {nd : List Nd} {P p : List UInt8} (h : SeekW nd P none p) : findO nd P = none := by
  cases h with
  | lost h hP => unfold findO; rw [if_neg hP, h]; rfl
theorem SeekW.nil_is {nd : List Nd} {P : List UInt8} {o : Option (Option Nd)} (hw : Wf nd) (h : SeekW nd P o []) : findO nd P = o := by
  cases h with
  | lost h hP => unfold findO; rw [if_neg hP, h]; rfl
  | root => rfl
  | way q p y h hp h2 => exact absurd rfl hp
  | done y h =>
    have hP : P ≠ [] := fun e => by rw [e, lookN_neat hw.ok not_neat_nil] at h; cases h
    unfold findO; rw [if_neg hP, h]; rfl
theorem seek_lift {nd : List Nd} {P p : List UInt8} {o : Option Nd} (hw : Wf nd) (hP : P ≠ []) (h : Seek nd P o p) : SeekW nd P (o.map some) p := by
  cases h with
  | lost h => exact .lost h hP p
  | way q p y h hp h2 => exact .way q p y h hp h2
  | done y h => exact .done y h
theorem SeekW.step {nd : List Nd} {P p : List UInt8} {o : Option Nd} (hw : Wf nd) (h : SeekW nd P (some o) p) (hp : p ≠ []) :
    ((cutP p).2.2 = true ∧ (cutP p).2.1 = [] → findO nd P = none) ∧ (¬ ((cutP p).2.2 = true ∧ (cutP p).2.1 = []) → SeekW nd P ((kidN nd (spotQ o) (cutP p).1).map some) (cutP p).2.1) := by
  have key : ∀ q, (q = [] ∨ ∃ y, lookN nd q = some y) → joinP q p = P → P ≠ [] → q = spotQ o → ((cutP p).2.2 = true ∧ (cutP p).2.1 = [] → findO nd P = none) ∧ (¬ ((cutP p).2.2 = true ∧ (cutP p).2.1 = []) → SeekW nd P ((kidN nd (spotQ o) (cutP p).1).map some) (cutP p).2.1) := by
    intro q hq h2 hP he
    subst he
    obtain ⟨a, b⟩ := seek_step hw hq hp h2
    exact ⟨fun x => by unfold findO; rw [if_neg hP, a x]; rfl, fun x => seek_lift hw hP (b x)⟩
  cases h with
  | root => exact key [] (.inl rfl) rfl hp rfl
  | way q p y h hp h2 =>
    refine key q (.inr ⟨y, h⟩) h2 ?_ (lookN_some h).2.symm
    intro e
    rw [e] at h2
    unfold joinP at h2
    split at h2
    · exact hp h2
    · exact absurd h2 (by simp)
  | done y h => exact absurd rfl hp
theorem TreeAt.spot {w : World} {T rt rm base : Nat} {nd : List Nd} (h : TreeAt w T rt rm base nd) {o : Option Nd} (ho : SpotIn nd o) :
    w.heap[spotB rt o]? = some (nodeObj (spotE o) (spotM rm o)) ∧ KidsAt w (spotM rm o) nd (spotQ o) := by
  cases o with
  | none => exact ⟨h.root, h.rmap⟩
  | some y => exact ⟨h.node y ho, h.nmap y ho⟩
theorem nodP_spot (rt : Nat) (o : Option Nd) : nodP o = spotP rt (o.map some) := by cases o <;> rfl
/-- the cells of a node -/
theorem node_cells {w : World} {b m : Nat} {e : Ent} (h : w.heap[b]? = some (nodeObj e m)) :
    w.cell? ⟨b, 0, none⟩ = some (.string e.p) ∧ w.cell? ⟨b, 1, none⟩ = some (.int .i64 e.k) ∧ w.cell? ⟨b, 2, none⟩ = some (.int .i64 e.m) ∧ w.cell? ⟨b, 3, none⟩ = some (.string e.d) ∧ w.cell? ⟨b, 4, none⟩ = some (.string e.l) ∧ w.cell? ⟨b, 5, none⟩ = some (.map (some m)) := by
  unfold World.cell? nodeObj at *
  simp [h]
end
section
open Go.RowKit Go.Maps
theorem find_perm {α : Type} {f : α → Bool} {l l' : List α} (h : l.Perm l') (hu : ∀ x ∈ l, ∀ y ∈ l, f x = true → f y = true → x = y) : l.find? f = l'.find? f := by
  cases h1 : l.find? f with
  | none =>
    symm
    rw [List.find?_eq_none] at h1 ⊢
    exact fun x hx => h1 x (h.mem_iff.2 hx)
  | some x =>
    have hx := List.mem_of_find?_eq_some h1
    have fx := List.find?_some h1
    cases h2 : l'.find? f with
    | none => exact absurd fx (List.find?_eq_none.1 h2 x (h.mem_iff.1 hx))
    | some y =>
      have hy := List.mem_of_find?_eq_some h2
      rw [hu x hx y (h.mem_iff.2 hy) fx (List.find?_some h2)]
theorem path_inj {nd : List Nd} (h : nd.Pairwise (fun a b => a.e.path ≠ b.e.path)) {x y : Nd} (hx : x ∈ nd) (hy : y ∈ nd) (e : x.e.path = y.e.path) : x = y := by
  have h1 := lookN_mem h hx
  have h2 := lookN_mem h hy
  rw [e, h2] at h1
  injection h1 with h1
  exact h1.symm
theorem kidN_perm {nd nd' : List Nd} (hw : Wf nd) (h : nd.Perm nd') (q c : List UInt8) : kidN nd q c = kidN nd' q c := by
  refine find_perm h fun x hx y hy fx fy => path_inj hw.one hx hy ?_
  simp only [Bool.and_eq_true, beq_iff_eq] at fx fy
  rw [(hw.ok x hx).is_join, (hw.ok y hy).is_join, fx.1, fx.2, fy.1, fy.2]
theorem lookN_perm {nd nd' : List Nd} (hw : Wf nd) (h : nd.Perm nd') (q : List UInt8) : lookN nd q = lookN nd' q := by
  refine find_perm h fun x hx y hy fx fy => path_inj hw.one hx hy ?_
  simp only [beq_iff_eq] at fx fy
  rw [fx, fy]
theorem Wf.perm {nd nd' : List Nd} (hw : Wf nd) (h : nd.Perm nd') : Wf nd' :=
  ⟨fun y hy => hw.ok y (h.mem_iff.2 hy), fun y hy => (hw.up y (h.mem_iff.2 hy)).imp id fun ⟨z, hz, h1⟩ => ⟨z, h.mem_iff.1 hz, h1⟩, h.pairwise hw.one (fun h e => h e.symm)⟩
theorem KidsD.congr {D : DataW Nat} {nd nd' : List Nd} {q q' : List UInt8} (h : KidsD D nd q) (e : ∀ c, nodD (kidN nd' q' c) = nodD (kidN nd q c)) (e2 : ∀ c, kidN nd q c ≠ none → kidN nd' q' c ≠ none) : KidsD D nd' q' :=
  ⟨fun c => (h.at_ c).trans (e c).symm, fun k hk => by obtain ⟨c, h1, h2⟩ := h.has k hk; exact ⟨c, h1, e2 c h2⟩⟩
theorem KidsAt.congr {w : World} {m : Nat} {nd nd' : List Nd} {q q' : List UInt8} (h : KidsAt w m nd q) (hl : nd.length ≤ nd'.length) (e : ∀ c, nodD (kidN nd' q' c) = nodD (kidN nd q c)) (e2 : ∀ c, kidN nd q c ≠ none → kidN nd' q' c ≠ none) : KidsAt w m nd' q' := by
  obtain ⟨n, D, h1, h2, h3⟩ := h
  exact ⟨n, D, h1, by omega, h3.congr e e2⟩
theorem KidsAt.perm {w : World} {m : Nat} {nd nd' : List Nd} {q : List UInt8} (h : KidsAt w m nd q) (hw : Wf nd) (hp : nd.Perm nd') : KidsAt w m nd' q :=
  h.congr (Nat.le_of_eq hp.length_eq) (fun c => by rw [kidN_perm hw hp]) (fun c hc => by rw [← kidN_perm hw hp]; exact hc)
/-- a tree's heap, its nodes in whatever order; T: a block that is none of theirs -/
structure RawAt (w : World) (T rt rm base : Nat) (nd : List Nd) : Prop where
  wf : Wf nd
  root : w.heap[rt]? = some (nodeObj rootE rm)
  rmap : KidsAt w rm nd []
  node : ∀ y ∈ nd, w.heap[y.b]? = some (nodeObj y.e y.m)
  nmap : ∀ y ∈ nd, KidsAt w y.m nd y.e.path
  rno : ∀ y ∈ nd, y.m ≠ rm
  mno : nd.Pairwise (fun a b => a.m ≠ b.m)
  lo : base ≤ T ∧ base ≤ rt ∧ base ≤ rm ∧ ∀ y ∈ nd, base ≤ y.b ∧ base ≤ y.m
theorem TreeAt.raw {w : World} {T rt rm base : Nat} {nd : List Nd} (h : TreeAt w T rt rm base nd) : RawAt w T rt rm base nd := ⟨h.wf, h.root, h.rmap, h.node, h.nmap, h.rno, h.mno, h.lo⟩
theorem RawAt.tree {w : World} {T rt rm base : Nat} {nd : List Nd} (h : RawAt w T rt rm base nd) (hg : Good (ents nd))
    (ht : w.heap[T]? = some (.cells #[.pointer (some ⟨rt, 0, none⟩), .int .i64 (nd.length : Int), .int .i64 (bytesN nd : Int)] 91 (0, 0))) : TreeAt w T rt rm base nd :=
  ⟨hg, ht, h.root, h.rmap, h.node, h.nmap, h.rno, h.mno, h.lo⟩
theorem RawAt.perm {w : World} {T rt rm base : Nat} {nd nd' : List Nd} (h : RawAt w T rt rm base nd) (hp : nd.Perm nd') : RawAt w T rt rm base nd' :=
  ⟨h.wf.perm hp, h.root, h.rmap.perm h.wf hp, fun y hy => h.node y (hp.mem_iff.2 hy), fun y hy => (h.nmap y (hp.mem_iff.2 hy)).perm h.wf hp, fun y hy => h.rno y (hp.mem_iff.2 hy), hp.pairwise h.mno (fun h e => h e.symm),
    h.lo.1, h.lo.2.1, h.lo.2.2.1, fun y hy => h.lo.2.2.2 y (hp.mem_iff.2 hy)⟩
theorem kids_none' {nd : List Nd} {y : Nd} (h : Wf (nd ++ [y])) (h0 : Wf nd) (c : List UInt8) : kidN (nd ++ [y]) y.e.path c = none := kids_none h h0 c
/-- a node more -/
theorem TreeAt.addRaw {w w' : World} {T rt rm base : Nat} {nd : List Nd} (h : TreeAt w T rt rm base nd) {y : Nd} (hw2 : Wf (nd ++ [y]))
    (hm : KidsAt w' (upM rm nd (parent y.e.path)) (nd ++ [y]) (parent y.e.path))
    (hn : w'.heap[y.b]? = some (nodeObj y.e y.m)) (hk : w'.ownsMap Tryz.prog 9 ptrElem y.m 0 (.map []))
    (hs : ∀ b, b < w.heap.size → b ≠ T → b ≠ upM rm nd (parent y.e.path) → w'.heap[b]? = w.heap[b]?)
    (hb1 : w.heap.size ≤ y.b) (hb2 : w.heap.size ≤ y.m) : RawAt w' T rt rm base (nd ++ [y]) := by
  have hw := h.wf
  have hyn := hw2.ok y (by simp)
  have hup : upM rm nd (parent y.e.path) = rm ∨ ∃ z, z ∈ nd ∧ z.e.path = parent y.e.path ∧ upM rm nd (parent y.e.path) = z.m := upM_is _ _ _
  have hmapU : ∃ es c, w.heap[upM rm nd (parent y.e.path)]? = some (.map es c) := by
    rcases hup with e | ⟨z, hz, _, e⟩
    · rw [e]; exact h.rmap.is_map
    · rw [e]; exact (h.nmap z hz).is_map
  obtain ⟨es, ck, hmapU⟩ := hmapU
  have cellsOk : ∀ b cs t fz, w.heap[b]? = some (.cells cs t fz) → b ≠ T → w'.heap[b]? = some (.cells cs t fz) := fun b cs t fz hb hne => by
    rw [hs b (heap_lt hb) hne ?_]
    · exact hb
    · intro e
      rw [e, hmapU] at hb
      cases hb
  have notT : ∀ b e m, w.heap[b]? = some (nodeObj e m) → b ≠ T := fun b e m hb e2 => by
    rw [e2, h.tr] at hb
    unfold nodeObj at hb
    injection hb with hb
    injection hb with _ hb _
    cases hb
  have mapNotT : ∀ b, (∃ es c, w.heap[b]? = some (.map es c)) → b ≠ T := fun b ⟨es2, c2, hb⟩ e2 => by
    rw [e2, h.tr] at hb
    cases hb
  refine ⟨hw2, ?_, ?_, ?_, ?_, ?_, ?_, ?_⟩
  · exact cellsOk _ _ _ _ h.root (notT _ _ _ h.root)
  · by_cases h0 : parent y.e.path = []
    · rw [h0, upM_nil] at hm
      exact hm
    · refine KidsAt.other (h.rmap.block fun es2 c2 hb => ?_) h0
      rw [hs rm (heap_lt hb) (mapNotT _ ⟨_, _, hb⟩) ?_]
      · exact hb
      · intro e
        rcases upM_is rm nd (parent y.e.path) with e1 | ⟨z, hz, _, e1⟩
        · rcases hw2.up y (by simp) with h1 | ⟨z, hz, h1, _⟩
          · exact h0 h1
          · rcases List.mem_append.1 hz with hz | hz
            · have hl := lookN_mem hw.one hz
              rw [h1] at hl
              rw [upM_some h0 hl] at e
              exact h.rno z hz e.symm
            · rw [List.mem_singleton.1 hz] at h1
              have := parent_shorter hyn.ne
              rw [← h1] at this
              omega
        · exact h.rno z hz (e1.symm.trans e.symm)
  · intro x hx
    rcases List.mem_append.1 hx with hx | hx
    · exact cellsOk _ _ _ _ (h.node x hx) (notT _ _ _ (h.node x hx))
    · rw [List.mem_singleton.1 hx]; exact hn
  · intro x hx
    rcases List.mem_append.1 hx with hx | hx
    · have hxn := hw.ok x hx
      by_cases hp : parent y.e.path = x.e.path
      · have hl := lookN_mem hw.one hx
        rw [hp, upM_some hxn.ne hl] at hm
        exact hm
      · refine KidsAt.other ((h.nmap x hx).block fun es2 c2 hb => ?_) hp
        rw [hs x.m (heap_lt hb) (mapNotT _ ⟨_, _, hb⟩) ?_]
        · exact hb
        · intro e
          rcases upM_is rm nd (parent y.e.path) with e1 | ⟨z, hz, hz2, e1⟩
          · exact h.rno x hx (e.trans e1)
          · have := pair_inj h.mno hx hz (e.trans e1)
            rw [← this] at hz2
            exact hp hz2.symm
    · rw [List.mem_singleton.1 hx]
      exact ⟨0, _, hk, Nat.zero_le _, kidsD_empty (kids_none hw2 hw)⟩
  · intro x hx
    rcases List.mem_append.1 hx with hx | hx
    · exact h.rno x hx
    · rw [List.mem_singleton.1 hx]
      have := h.rmap.lt
      omega
  · rw [List.pairwise_append]
    refine ⟨h.mno, List.pairwise_singleton _ _, fun a ha b hb => ?_⟩
    rw [List.mem_singleton.1 hb]
    have := (h.nmap a ha).lt
    omega
  · refine ⟨h.lo.1, h.lo.2.1, h.lo.2.2.1, fun x hx => ?_⟩
    rcases List.mem_append.1 hx with hx | hx
    · exact h.lo.2.2.2 x hx
    · rw [List.mem_singleton.1 hx]
      have := h.lo.1
      have := heap_lt h.tr
      omega
/- a node's entry is changed -/
def updN (y : Nd) (x : Nd) : Nd := if x.e.path = y.e.path then { x with e := y.e } else x
theorem updN_path (y x : Nd) : (updN y x).e.path = x.e.path := by
  unfold updN
  by_cases h : x.e.path = y.e.path
  · rw [if_pos h]; exact h.symm
  · rw [if_neg h]
theorem updN_b (y x : Nd) : (updN y x).b = x.b := by unfold updN; split <;> rfl
theorem updN_m (y x : Nd) : (updN y x).m = x.m := by unfold updN; split <;> rfl
theorem kidN_upd (nd : List Nd) (y : Nd) (q c : List UInt8) : kidN (nd.map (updN y)) q c = (kidN nd q c).map (updN y) := by
  unfold kidN
  rw [List.find?_map]
  congr 1
  refine find_congr fun x _ => ?_
  show (parent (updN y x).e.path == q && lastName (updN y x).e.path == c) = _
  rw [updN_path]
theorem TreeAt.replace {w w' : World} {T rt rm base : Nat} {nd : List Nd} (h : TreeAt w T rt rm base nd) {y : Nd} (hy : y ∈ nd) {e : Ent} (hp : e.path = y.e.path) (hg : Good (laidL (ents nd) e))
    (hT : w'.heap[T]? = some (.cells #[.pointer (some ⟨rt, 0, none⟩), .int .i64 (nd.length : Int), .int .i64 (bytesE (laidL (ents nd) e) : Int)] 91 (0, 0)))
    (hn : w'.heap[y.b]? = some (nodeObj e y.m)) (hs : ∀ b, b < w.heap.size → b ≠ T → b ≠ y.b → w'.heap[b]? = w.heap[b]?) :
    TreeAt w' T rt rm base (laidN nd { y with e := e }) := by
  have hent : ents (laidN nd { y with e := e }) = laidL (ents nd) e := ents_laid nd _
  have hord : InOrder nd := by
    have := h.good.inc
    unfold ents at this
    rw [List.pairwise_map] at this
    exact this
  have hmap : laidN nd { y with e := e } = nd.map (updN { y with e := e }) := laidN_old hord ⟨y, hy, hp.symm⟩
  have hlen : (laidN nd { y with e := e }).length = nd.length := by rw [hmap, List.length_map]
  have hw := h.wf
  have notT : ∀ b e m, w.heap[b]? = some (nodeObj e m) → b ≠ T := fun b e m hb e2 => by
    rw [e2, h.tr] at hb
    unfold nodeObj at hb
    injection hb with hb
    injection hb with _ hb _
    cases hb
  have mapNotT : ∀ b, (∃ es c, w.heap[b]? = some (.map es c)) → b ≠ T := fun b ⟨es2, c2, hb⟩ e2 => by
    rw [e2, h.tr] at hb
    cases hb
  have mapNotB : ∀ b, (∃ es c, w.heap[b]? = some (.map es c)) → b ≠ y.b := fun b ⟨es2, c2, hb⟩ e2 => by
    rw [e2, h.node y hy] at hb
    cases hb
  have bno : ∀ x ∈ nd, x.b = y.b → x = y := fun x hx e2 => by
    have h1 := h.node x hx
    rw [e2, h.node y hy] at h1
    unfold nodeObj at h1
    injection h1 with h1
    injection h1 with h1 _ _
    have h2 : x.m = y.m := by
      have := congrArg (fun a : Array Value => a[5]?) h1
      simpa using this.symm
    exact pair_inj h.mno hx hy h2
  have kids : ∀ m q, KidsAt w m nd q → KidsAt w' m (laidN nd { y with e := e }) q := fun m q hk => by
    have h1 : KidsAt w' m nd q := hk.block fun es c hb => by
      rw [hs m (heap_lt hb) (mapNotT _ ⟨_, _, hb⟩) (mapNotB _ ⟨_, _, hb⟩)]
      exact hb
    refine h1.congr (by omega) (fun c => ?_) (fun c hc => ?_)
    · rw [hmap, kidN_upd]
      cases kidN nd q c with
      | none => rfl
      | some z => show nodD (some (updN _ z)) = _; unfold nodD; simp only []; rw [updN_b]
    · rw [hmap, kidN_upd]
      cases hz : kidN nd q c with
      | none => exact absurd hz hc
      | some z => simp
  have mem : ∀ x, x ∈ laidN nd { y with e := e } → ∃ z ∈ nd, x.b = z.b ∧ x.m = z.m ∧ x.e.path = z.e.path ∧ ((z = y ∧ x.e = e) ∨ (z ≠ y ∧ x.e = z.e)) := fun x hx => by
    rw [hmap] at hx
    obtain ⟨z, hz, rfl⟩ := List.mem_map.1 hx
    refine ⟨z, hz, updN_b _ _, updN_m _ _, updN_path _ _, ?_⟩
    unfold updN
    by_cases h1 : z.e.path = e.path
    · rw [if_pos h1]
      exact .inl ⟨path_inj hw.one hz hy (h1.trans hp), rfl⟩
    · rw [if_neg h1]
      exact .inr ⟨fun e2 => h1 (by rw [e2, hp]), rfl⟩
  refine RawAt.tree ⟨?_, ?_, ?_, ?_, ?_, ?_, ?_, ?_⟩ ?_ ?_
  · exact Good.wf (by rw [hent]; exact hg)
  · rw [hs rt (heap_lt h.root) (notT _ _ _ h.root) ?_]
    · exact h.root
    · intro e2
      have h1 := h.node y hy
      rw [← e2, h.root] at h1
      unfold nodeObj at h1
      injection h1 with h1
      injection h1 with h1 _ _
      have h2 : rm = y.m := by
        have := congrArg (fun a : Array Value => a[5]?) h1
        simpa using this
      exact h.rno y hy h2.symm
  · exact kids _ _ h.rmap
  · intro x hx
    obtain ⟨z, hz, hb, hm, hpp, hc⟩ := mem x hx
    rw [hb, hm]
    rcases hc with ⟨rfl, he⟩ | ⟨hne, he⟩
    · rw [he]; exact hn
    · rw [he, hs z.b (heap_lt (h.node z hz)) (notT _ _ _ (h.node z hz)) (fun e2 => hne (bno z hz e2))]
      exact h.node z hz
  · intro x hx
    obtain ⟨z, hz, hb, hm, hpp, hc⟩ := mem x hx
    rw [hm, hpp]
    exact kids _ _ (h.nmap z hz)
  · intro x hx
    obtain ⟨z, hz, hb, hm, hpp, hc⟩ := mem x hx
    rw [hm]
    exact h.rno z hz
  · rw [hmap, List.pairwise_map]
    exact h.mno.imp fun {a b} hab => by rw [updN_m, updN_m]; exact hab
  · refine ⟨h.lo.1, h.lo.2.1, h.lo.2.2.1, fun x hx => ?_⟩
    obtain ⟨z, hz, hb, hm, hpp, hc⟩ := mem x hx
    rw [hb, hm]
    exact h.lo.2.2.2 z hz
  · rw [hent]; exact hg
  · rw [hlen]
    unfold bytesN
    rw [hent]
    exact hT
end
section
open Go.RowKit
section
variable {P : Program}
theorem run_loadVar_at (w : World) (a : Addr) (ty : TypeId) (cs : List Value) (d : TypeDesc) (hc : ∀ j v, cs[j]? = some v → w.cell? (a.add j) = some v)
    (hu : P.underlying ty = some d) (hd : (match d with | .struct _ | .array _ _ => true | _ => false) = true) (hi : (P.info? ty).map (·.size) = some cs.length) :
    (loadVar ty a).run P w = .ok (.agg cs.toArray) w := by
  have hl : (loadCells a cs.length).run P w = .ok cs.toArray w := run_loadCells_list (P := P) w a cs hc
  cases hq : P.info? ty with
  | none => simp [hq] at hi
  | some i =>
    have hs : i.size = cs.length := by simpa [hq] using hi
    have hagg : (isAgg ty).run P w = .ok true w := by
      unfold isAgg
      rw [Sem.run_bind, run_underlying hu w]
      cases d <;> simp_all
    simp [loadVar, Sem.run_bind, hagg, sizeOf, typeInfo, hq, hs, hl]
theorem wp_load_at {o : Oper} {a : Act} {w : World} {K : Act → World → Prop} {Q : Exit → Act → World → Prop} (ty : TypeId) (x : Operand) (ho : o.op = .load ty x)
    (p : Addr) (hx : a.eval x = .pointer (some p)) (cs : List Value) (d : TypeDesc) (hc : ∀ j v, cs[j]? = some v → w.cell? (p.add j) = some v)
    (hu : P.underlying ty = some d) (hd : (match d with | .struct _ | .array _ _ => true | _ => false) = true) (hi : (P.info? ty).map (·.size) = some cs.length)
    (h : K (a.put o.dst (.agg cs.toArray)) w) : o.wp P a w K Q := by
  unfold Oper.wp execOp
  simp only [ho, hx, Instr.loadAt, Instr.sureAddr, Sem.run_bind, Sem.run_pure, Result.andThen_ok, run_loadVar_at w p ty cs d hc hu hd hi]
  exact h
theorem wpList_load_at {ops : Array Oper} {rest : List Oper} {o : Oper} {a : Act} {w : World} {Q : Exit → Act → World → Prop} (hgd : o.guard = none) (ty : TypeId) (x : Operand) (ho : o.op = .load ty x)
    (p : Addr) (hx : a.eval x = .pointer (some p)) (cs : List Value) (d : TypeDesc) (hc : ∀ j v, cs[j]? = some v → w.cell? (p.add j) = some v)
    (hu : P.underlying ty = some d) (hd : (match d with | .struct _ | .array _ _ => true | _ => false) = true) (hi : (P.info? ty).map (·.size) = some cs.length)
    (h : wpList P ops Q rest (a.put o.dst (.agg cs.toArray)) w) : wpList P ops Q (o :: rest) a w :=
  wpList_plain hgd fun _ hK => wp_load_at ty x ho p hx cs d hc hu hd hi (hK _ _ h)
end
/-- an entry's cells -/
def entC (e : Ent) : List Value := [.string e.p, .int .i64 e.k, .int .i64 e.m, .string e.d, .string e.l]
def entV (e : Ent) : Value := .agg (entC e).toArray
/-- a slice of entries in memory -/
def EntsAt (w : World) (v : Value) (L : List Ent) : Prop := ∃ o cap, v = .slice o L.length cap ∧ L.length ≤ cap ∧ cap ≤ maxLen ∧ ∀ (i : Nat) e, L[i]? = some e → ∃ a, o = some a ∧ a.block < w.heap.size ∧ ∀ j x, (entC e)[j]? = some x → w.cell? ((a.add (i * 5)).add j) = some x
theorem add_block (a : Addr) (j : Nat) : (a.add j).block = a.block := by unfold Addr.add; split <;> rfl
theorem EntsAt.below {w w' : World} {v : Value} {L : List Ent} {B : Nat} (h : EntsAt w v L) (hb : Below B w w') (hB : w.heap.size ≤ B) : EntsAt w' v L := by
  obtain ⟨o, cap, h1, h2, h3, h4⟩ := h
  refine ⟨o, cap, h1, h2, h3, fun i e he => ?_⟩
  obtain ⟨a, ha, hl, hc⟩ := h4 i e he
  refine ⟨a, ha, Nat.lt_of_lt_of_le hl hb.size, fun j x hx => ?_⟩
  have := hc j x hx
  unfold World.cell? at this ⊢
  rw [hb.block _ (by rw [add_block, add_block]; omega)]
  exact this
end
end Go.Proofs.YtfanfkogogijpaaGreatDoor
