/- The reference's Go where it makes (PPlain, PKeep, PWith, PStep, PGo). -/
import Derived.Test.YtdkodedocklmdaaGreatDoorMStep
import Derived.Test.YtdkodedocklmdaaGreatDoorSWay
import Derived.Test.YtdkodedocklmdaaGreatDoorRSome
import Derived.Test.YtdkodedocklmdaaGreatDoorRefb
import Derived.Test.YtdkodedocklmdaaGreatDoorName
set_option linter.unusedSimpArgs false
set_option linter.unusedVariables false
namespace Go.Proofs.YtdkodedocklmdaaGreatDoor
section
theorem checkNo_top (l : List UInt8) : checkNo l ≤ 32 := by
  have hs : (splitP (whiteout l)).2.2 ≤ 32 := by
    unfold splitP
    repeat (first | (simp only []; omega) | split)
  unfold checkNo
  repeat (first | omega | exact hs | split)
theorem itselfNo_top (e : Ent) : itselfNo e ≤ 32 := by
  have := checkNo_top e.path
  unfold itselfNo
  repeat (first | omega | split)
theorem upNo_top (l : List Ent) (p : List UInt8) : upNo l p ≤ 32 := by
  unfold upNo
  repeat (first | omega | split)
theorem putNo_top (l : List Ent) (e : Ent) : putNo l e ≤ 32 := by
  have h1 := itselfNo_top e
  have h2 := upNo_top l e.path
  unfold putNo
  repeat (first | omega | split)
/-- a round of a walk that makes, as the reference goes it -/
def stepM (mk : Bool) (L : List Ent) (a c : List UInt8) (left : List (List UInt8)) (hops : Nat) : Except Nat (Option (List Ent × List UInt8 × List (List UInt8) × Nat)) :=
  if c = [46] then .ok (some (L, a, left, hops)) else if c = [46, 46] then .ok (some (L, parent a, left, hops))
  else match lookE L (joinP a c) with
    | none => if mayNo c (joinP a c) ≠ 0 then .error (mayNo c (joinP a c)) else if mk = false ∧ left = [] then .ok none
        else if 4096 ≤ L.length then .error 5 else .ok (some (laidL L (dirE (joinP a c)), joinP a c, left, hops))
    | some e => if e.k = 1 then .ok (some (L, joinP a c, left, hops)) else if e.k = 2 then (if mk = true ∨ left ≠ [] then .error 13 else .ok none)
        else if hops = 40 then .error 12 else .ok (some (L, linkAt a e, pieces e.l.data.toList ++ left, hops + 1))
theorem stepM_run {mk : Bool} {L : List Ent} (hL : Good L) {a c : List UInt8} {left : List (List UInt8)} {hops : Nat} {md : List (List UInt8)} (h0 : hops ≤ 40) (hc : c ≠ [] ∧ (47 : UInt8) ∉ c) (ha : Here L a) :
    ∃ md', makeF mk (needF (c :: left).length hops) L a (c :: left) hops md = match stepM mk L a c left hops with
      | .error n => (L, md, .error n)
      | .ok none => (L, md, .ok (joinP a c))
      | .ok (some (L', a', left', hops')) => makeF mk (needF left'.length hops') L' a' left' hops' md' := by
  unfold stepM
  by_cases h1 : c = [46]
  · subst h1
    rw [if_pos rfl, makeF_dot]
    exact ⟨md, rfl⟩
  rw [if_neg h1]
  by_cases h2 : c = [46, 46]
  · subst h2
    rw [if_pos rfl, makeF_up]
    exact ⟨md, rfl⟩
  rw [if_neg h2]
  cases hq : lookE L (joinP a c) with
  | some e =>
    rw [makeF_there hL h0 h1 h2 hq]
    refine ⟨md, ?_⟩
    unfold pieceM
    simp only []
    by_cases k1 : e.k = 1
    · simp only [if_pos k1]
    simp only [if_neg k1]
    by_cases k2 : e.k = 2
    · simp only [if_pos k2]
      by_cases h3 : mk = true ∨ left ≠ []
      · simp only [if_pos h3]
      · simp only [if_neg h3]
    simp only [if_neg k2]
    by_cases h4 : hops = 40
    · simp only [if_pos h4]
    simp only [if_neg h4]
  | none =>
    rw [makeF_miss h1 h2 hq]
    have hd : (missDone mk (decide (left.length = 0)) = true) ↔ (mk = false ∧ left = []) := by
      unfold missDone
      cases mk <;> simp
    simp only []
    unfold missNo dirNo
    by_cases h3 : mayNo c (joinP a c) ≠ 0
    · simp only [if_pos h3]
      refine ⟨md, ?_⟩
      by_cases h4 : missDone mk (decide (left.length = 0)) = true
      · simp only [if_pos h4, if_pos h3]
      · simp only [if_neg h4, if_pos h3]
    · have h3' : mayNo c (joinP a c) = 0 := by omega
      simp only [if_neg h3]
      by_cases h4 : missDone mk (decide (left.length = 0)) = true
      · refine ⟨md, ?_⟩
        simp only [if_pos h4, if_neg h3, if_pos (hd.1 h4)]
      · simp only [if_neg h4, if_neg (fun x => h4 (hd.2 x))]
        rw [putNo_dir hL hc ha hq h3']
        refine ⟨md ++ [joinP a c], ?_⟩
        by_cases h5 : 4096 ≤ L.length
        · simp only [if_pos h5]
          rw [if_pos (by decide)]
        · simp only [if_neg h5]
          rw [if_neg (by decide)]
/-- where a round leads -/
theorem stepM_on {mk : Bool} {L L' : List Ent} (hL : Good L) {a c a' : List UInt8} {left left' : List (List UInt8)} {hops hops' N : Nat} (h0 : hops ≤ 40) (hc : c ≠ [] ∧ (47 : UInt8) ∉ c) (ha : Here L a) (haz : a.length ≤ 255) (hN : 100 ≤ N)
    (hl : ∀ c ∈ left, c.length ≤ N ∧ c ≠ [] ∧ (47 : UInt8) ∉ c) (h : stepM mk L a c left hops = .ok (some (L', a', left', hops'))) :
    Good L' ∧ Here L' a' ∧ hops' ≤ 40 ∧ a'.length ≤ 255 ∧ (∀ c ∈ left', c.length ≤ N ∧ c ≠ [] ∧ (47 : UInt8) ∉ c) ∧ needF left'.length hops' ≤ needF left.length hops := by
  unfold stepM at h
  by_cases h1 : c = [46]
  · rw [if_pos h1] at h
    injection h with h; injection h with h; injection h with e1 h; injection h with e2 h; injection h with e3 e4
    subst e1; subst e2; subst e3; subst e4
    exact ⟨hL, ha, h0, haz, hl, Nat.le_refl _⟩
  rw [if_neg h1] at h
  by_cases h2 : c = [46, 46]
  · rw [if_pos h2] at h
    injection h with h; injection h with h; injection h with e1 h; injection h with e2 h; injection h with e3 e4
    subst e1; subst e2; subst e3; subst e4
    exact ⟨hL, ha.parent hL, h0, Nat.le_trans (parent_length a) haz, hl, Nat.le_refl _⟩
  rw [if_neg h2] at h
  cases hq : lookE L (joinP a c) with
  | none =>
    rw [hq] at h
    simp only [] at h
    by_cases h3 : mayNo c (joinP a c) ≠ 0
    · rw [if_pos h3] at h; cases h
    rw [if_neg h3] at h
    split at h
    · cases h
    by_cases h5 : 4096 ≤ L.length
    · rw [if_pos h5] at h; cases h
    rw [if_neg h5] at h
    injection h with h; injection h with h; injection h with e1 h; injection h with e2 h; injection h with e3 e4
    subst e1; subst e2; subst e3; subst e4
    have hm : mayNo c (joinP a c) = 0 := by omega
    have hp : putNo L (dirE (joinP a c)) = 0 := by rw [putNo_dir hL hc ha hq hm, if_neg h5]
    have hg := hL.laid hp
    refine ⟨hg, .made hL, h0, path_size hg (e := dirE (joinP a c)) ?_, hl, Nat.le_refl _⟩
    rw [lookE_laid hL.inc, dirE_path, if_pos rfl]
  | some e =>
    rw [hq] at h
    simp only [] at h
    by_cases k1 : e.k = 1
    · rw [if_pos k1] at h
      injection h with h; injection h with h; injection h with e1 h; injection h with e2 h; injection h with e3 e4
      subst e1; subst e2; subst e3; subst e4
      exact ⟨hL, .inr ⟨e, hq, k1⟩, h0, path_size hL hq, hl, Nat.le_refl _⟩
    rw [if_neg k1] at h
    by_cases k2 : e.k = 2
    · rw [if_pos k2] at h
      split at h <;> cases h
    rw [if_neg k2] at h
    split at h
    · cases h
    injection h with h; injection h with h; injection h with e1 h; injection h with e2 h; injection h with e3 e4
    subst e1; subst e2; subst e3; subst e4
    refine ⟨hL, ha.link e, by omega, ?_, fun c hc => ?_, ?_⟩
    · unfold linkAt; split
      · simp
      · exact haz
    · rcases List.mem_append.1 hc with hc | hc
      · have h1 := pieces_long hc
        have h2 := link_size hL hq k1 k2
        have : e.l.data.toList.length = e.l.size := rfl
        exact ⟨by omega, pieces_mem c hc⟩
      · exact hl c hc
    · have := (link_short hL hq k1 k2).1
      unfold needF
      simp
      omega
theorem stepM_err {mk : Bool} {L : List Ent} {a c : List UInt8} {left : List (List UInt8)} {hops n : Nat} (h : stepM mk L a c left hops = .error n) : n ≠ 0 ∧ n ≤ 32 := by
  unfold stepM at h
  split at h
  · cases h
  split at h
  · cases h
  split at h
  · split at h
    · injection h with h
      subst h
      refine ⟨by assumption, ?_⟩
      unfold mayNo
      split
      · exact nameNo_le c
      · exact checkNo_top _
    split at h
    · cases h
    split at h
    · injection h with h; omega
    · cases h
  · split at h
    · cases h
    split at h
    · split at h
      · injection h with h; omega
      · cases h
    split at h
    · injection h with h; omega
    · cases h
/-- a list with an entry more, as With goes -/
def stepW (e : Ent) (s : List Ent × Bool) (x : Ent) : List Ent × Bool := if s.2 = false ∧ compareP e.path x.path < 0 then (s.1 ++ [e, x], true) else (s.1 ++ [x], s.2)
def wiF (e : Ent) (L : List Ent) : List Ent × Bool := L.foldl (stepW e) ([], false)
def withP (e : Ent) (L : List Ent) : List Ent := if (wiF e L).2 = true then (wiF e L).1 else (wiF e L).1 ++ [e]
theorem wi_done (e : Ent) : ∀ (L out : List Ent), L.foldl (stepW e) (out, true) = (out ++ L, true)
  | [], out => by simp
  | x :: r, out => by
    rw [List.foldl_cons]
    unfold stepW
    rw [if_neg (by simp)]
    have := wi_done e r (out ++ [x])
    unfold stepW at this
    simp only [] at this ⊢
    rw [this]
    simp
theorem wi_laid {e : Ent} : ∀ (L out : List Ent), (∀ x ∈ L, x.path ≠ e.path) → (if (L.foldl (stepW e) (out, false)).2 = true then (L.foldl (stepW e) (out, false)).1 else (L.foldl (stepW e) (out, false)).1 ++ [e]) = out ++ laidL L e
  | [], out, h => by simp [laidL]
  | x :: r, out, h => by
    have hx := h x (List.mem_cons_self ..)
    have hr : ∀ y ∈ r, y.path ≠ e.path := fun y hy => h y (List.mem_cons_of_mem _ hy)
    have hf := compareP_flip e.path x.path
    have hz : compareP e.path x.path ≠ 0 := fun h0 => hx (compareP_zero.1 h0).symm
    rw [List.foldl_cons]
    by_cases hc : compareP e.path x.path < 0
    · rw [show stepW e (out, false) x = (out ++ [e, x], true) from if_pos ⟨rfl, hc⟩, wi_done, if_pos rfl]
      unfold laidL
      rw [if_neg (by omega), if_neg hx]
      simp
    · rw [show stepW e (out, false) x = (out ++ [x], false) from if_neg (fun h => hc h.2), wi_laid r _ hr]
      conv => rhs; unfold laidL
      rw [if_pos (by omega)]
      simp
theorem withP_laid {e : Ent} {L : List Ent} (h : lookE L e.path = none) : withP e L = laidL L e := by
  unfold withP wiF
  rw [wi_laid L [] (lookE_none h)]
  rfl
theorem wi_take {e x : Ent} {L : List Ent} {k : Nat} (h : L[k]? = some x) : wiF e (L.take (k + 1)) = stepW e (wiF e (L.take k)) x := by
  unfold wiF
  rw [List.take_add_one, h]
  simp
theorem wi_len (e : Ent) : ∀ (L : List Ent) (s : List Ent × Bool), (L.foldl (stepW e) s).1.length ≤ s.1.length + L.length + (if s.2 = true then 0 else 1)
  | [], s => by simp
  | x :: r, s => by
    rw [List.foldl_cons]
    have := wi_len e r (stepW e s x)
    refine Nat.le_trans this ?_
    unfold stepW
    obtain ⟨o, d⟩ := s
    by_cases h : d = false ∧ compareP e.path x.path < 0
    · rw [if_pos h]
      obtain ⟨rfl, _⟩ := h
      simp
      omega
    · rw [if_neg h]
      simp
      omega
end
section
open Go.RowKit Go.Maps Go.Shelf
open Go.Lib hiding intOf size_eq
theorem ents_keep {w w' : World} {v : Value} {L : List Ent} (h : EntsAt w v L) (hs : w.heap.size ≤ w'.heap.size) (hk : ∀ b n c, v = .slice (some b) n c → L ≠ [] → w'.heap[b.block]? = w.heap[b.block]?) : EntsAt w' v L := by
  obtain ⟨o, cap, rfl, h1, h2, h3⟩ := h
  refine ⟨o, cap, rfl, h1, h2, fun i e he => ?_⟩
  obtain ⟨a, rfl, hl, hc⟩ := h3 i e he
  refine ⟨a, rfl, Nat.lt_of_lt_of_le hl hs, fun j x hx => ?_⟩
  have := hc j x hx
  unfold World.cell? at this ⊢
  rw [add_block, add_block] at this ⊢
  rw [hk a _ _ rfl (fun e0 => by rw [e0] at he; cases he)]
  exact this
theorem ents_lt {w : World} {b : Addr} {n c : Nat} {L : List Ent} (h : EntsAt w (.slice (some b) n c) L) (hL : L ≠ []) : b.block < w.heap.size := by
  obtain ⟨o, cap, hv, _, _, h3⟩ := h
  obtain ⟨e, he⟩ : ∃ e, L[0]? = some e := ⟨_, List.getElem?_eq_getElem (List.length_pos_iff.2 hL)⟩
  obtain ⟨a, ha, hl, _⟩ := h3 0 e he
  injection hv with h1 _ _
  rw [ha] at h1
  injection h1 with h1
  rw [h1]
  exact hl
structure EntsOut (wr : World) (R D : Nat) (T : Option Nat) (v : Value) (L : List Ent) : Prop where
  ea : EntsAt wr v L
  out : ∀ b n c, v = .slice (some b) n c → L ≠ [] → b.block ≠ R ∧ b.block ≠ D ∧ some b.block ≠ T
theorem EntsOut.step {w wr w2 : World} {D : Nat} {cs : Array Value} {ro : Option Addr} {rc : Nat} {tr : List (List UInt8)} {v v' : Value} {L L' : List Ent} (h : EntsOut wr w.heap.size D (Value.slice ro tr.length rc).ownBlock v L)
    (hg : GoAt w wr D cs ro rc tr) (he : EntsAt w2 v' L') (ho : ∀ b n c, v' = .slice (some b) n c → L' ≠ [] → wr.heap.size ≤ b.block ∨ ∃ b0 n0 c0, v = .slice (some b0) n0 c0 ∧ L ≠ [] ∧ b.block = b0.block) (cs' : Array Value) :
    EntsOut (w2.setRow D cs') w.heap.size D (Value.slice ro tr.length rc).ownBlock v' L' := by
  have hD := heap_lt hg.d
  have hR := heap_lt hg.z
  have hout : ∀ b n c, v' = .slice (some b) n c → L' ≠ [] → b.block ≠ w.heap.size ∧ b.block ≠ D ∧ some b.block ≠ (Value.slice ro tr.length rc).ownBlock := fun b n c hb hL => by
    rcases ho b n c hb hL with h1 | ⟨b0, n0, c0, h1, h3, h2⟩
    · exact ⟨by omega, by omega, fun e => by have := (texts_own_lt hg.tx e.symm).1; omega⟩
    · rw [h2]; exact h.out b0 n0 c0 h1 h3
  exact ⟨ents_keep he (by simp [World.setRow]) (fun b n c hb hL => setRow_other _ _ _ _ (hout b n c hb hL).2.1), hout⟩
theorem EntsOut.add {w w3 w4 : World} {D : Nat} {cs : Array Value} {ro ro' : Option Addr} {rc rc' : Nat} {tr : List (List UInt8)} {x : List UInt8} {o : Obj} {v : Value} {L : List Ent} (h : GoAt w w3 D cs ro rc tr)
    (hgr : (w3.alloc o).grownBy w4 (Value.slice ro tr.length rc).ownBlock)
    (hat : (Value.slice ro' (tr.length + 1) rc').ownBlock = (Value.slice ro tr.length rc).ownBlock ∨ (Value.slice ro' (tr.length + 1) rc').ownBlock = some (w3.alloc o).heap.size)
    (he : EntsOut w3 w.heap.size D (Value.slice ro tr.length rc).ownBlock v L) :
    EntsOut (w4.setCell ⟨D, 4, none⟩ (.slice ro' (tr.length + 1) rc')) w.heap.size D (Value.slice ro' (tr ++ [x]).length rc').ownBlock v L := by
  have hblk : ∀ k, k < w3.heap.size → (Value.slice ro tr.length rc).ownBlock ≠ some k → w4.heap[k]? = w3.heap[k]? := fun k hk hn =>
    (hgr.block k (by simp; omega) (fun e => hn e.symm)).trans (heap_alloc_old w3 o hk)
  have hsz := hgr.size
  simp at hsz
  refine ⟨ents_keep he.ea (by simp; omega) (fun b n c hv hL => ?_), fun b n c hv hL => ?_⟩
  · have h1 := he.out b n c hv hL
    have h2 : b.block < w3.heap.size := by
      have := he.ea
      rw [hv] at this
      exact ents_lt this hL
    exact (heap_setCell_other w4 ⟨D, 4, none⟩ _ _ h1.2.1).trans (hblk _ h2 (fun e => h1.2.2 e.symm))
  · have h1 := he.out b n c hv hL
    refine ⟨h1.1, h1.2.1, ?_⟩
    rw [List.length_append, List.length_singleton]
    rcases hat with e | e
    · rw [e]; exact h1.2.2
    · rw [e]
      have h2 : b.block < w3.heap.size := by
        have := he.ea
        rw [hv] at this
        exact ents_lt this hL
      simp
      omega
/-- what a step makes of a walk that makes -/
def StepMR (w' : World) (B : Nat) (lo0 oa : Option Addr) (tc : Nat) (L : List Ent) (ro : Option Addr) (rn rc : Nat) (q : List UInt8) (R : Except Nat (Option (List Ent × List UInt8 × List (List UInt8) × Nat))) (r : Ending) : Prop :=
  match R with
  | .error n => n ≠ 0 ∧ ∃ oa' tn' tc' st lo ln lc hops, r = .returned (walkV oa' tn' tc' st lo ln lc hops ro rn rc false emp (n : Int))
  | .ok none => ∃ st lo ln lc hops, r = .returned (walkV oa L.length tc st lo ln lc hops ro rn rc true (bs q) 0)
  | .ok (some (L', a, left, hops)) => ∃ oa' tc' lo lc, r = .returned (walkV oa' L'.length tc' (bs a) lo left.length lc (hops : Int) ro rn rc false emp 0) ∧ LeftA w' lo lc left ∧ (∀ b, lo = some b → B ≤ b.block ∨ ∃ b0, lo0 = some b0 ∧ b.block = b0.block) ∧
      EntsAt w' (.slice oa' L'.length tc') L' ∧ ∀ b, oa' = some b → L' ≠ [] → B ≤ b.block ∨ ∃ b0, oa = some b0 ∧ L ≠ [] ∧ b.block = b0.block
/-- a step that leaves the tree, as one that makes -/
def upR (L : List Ent) (R : Except Nat (Option (List UInt8 × List (List UInt8) × Nat))) : Except Nat (Option (List Ent × List UInt8 × List (List UInt8) × Nat)) := match R with
  | .error n => .error n
  | .ok none => .ok none
  | .ok (some (a, left, hops)) => .ok (some (L, a, left, hops))
/-- a step that leaves the tree -/
theorem StepMR.of_res {w w' : World} {lo0 oa : Option Addr} {tc : Nat} {L : List Ent} {ro : Option Addr} {rn rc : Nat} {q : List UInt8} {R : Except Nat (Option (List UInt8 × List (List UInt8) × Nat))} {r : Ending} (hE : EntsAt w (.slice oa L.length tc) L)
    (hb : Below w.heap.size w w') (h : StepRes w' w.heap.size lo0 oa L.length tc ro rn rc q R r) : StepMR w' w.heap.size lo0 oa tc L ro rn rc q (upR L R) r := by
  unfold StepRes at h
  unfold StepMR
  cases R with
  | error n =>
    obtain ⟨h1, st, lo, ln, lc, hops, h2⟩ := h
    exact ⟨h1, _, _, _, st, lo, ln, lc, hops, h2⟩
  | ok x => cases x with
    | none => exact h
    | some x =>
      obtain ⟨a, left, hops⟩ := x
      obtain ⟨lo, lc, h1, h2, h3⟩ := h
      exact ⟨oa, tc, lo, lc, h1, h2, h3, hE.below hb (Nat.le_refl _), fun b hb hL => .inr ⟨b, hb, hL, rfl⟩⟩
def sortM (mk : Bool) : Int := if mk = true then 2 else 3
end
section
open Go.RowKit Go.Maps Go.Shelf Go.Sort
open Go.Lib hiding intOf size_eq
theorem ents_own {w : World} {base : Nat} {v : Value} {L : List Ent} (h : w.ownsRow base 38 5 v L.length (L.flatMap entC)) : ∃ o cap, v = .slice o L.length cap ∧ EntsAt w (.slice o L.length cap) L ∧ ∀ b, o = some b → base ≤ b.block := by
  have h4 := ents_of_row h
  obtain ⟨o, cap, hv, _⟩ := id h4
  subst hv
  refine ⟨o, cap, rfl, h4, fun b hb => ?_⟩
  subst hb
  obtain ⟨_, h5⟩ := h
  rcases h5 with ⟨e2, _⟩ | ⟨g, cap2, cur, e2, hg, _⟩
  · cases e2
  · injection e2 with e2 _ _
    injection e2 with e2
    subst e2
    exact hg
theorem row_below {w w' : World} {base : Nat} {v : Value} {n : Nat} {cs : List Value} (h : w.ownsRow base 38 5 v n cs) (hb : Below w.heap.size w w') : w'.ownsRow base 38 5 v n cs := by
  obtain ⟨h1, h2⟩ := h
  refine ⟨h1, ?_⟩
  rcases h2 with h2 | ⟨g, cap, cur, a, b, c, d⟩
  · exact .inl h2
  · exact .inr ⟨g, cap, cur, a, b, (hb.block g (Array.getElem?_eq_some_iff.1 c).1).trans c, d⟩
theorem wi_flat2 (e x : Ent) (s : List Ent × Bool) (h : s.2 = false ∧ compareP e.path x.path < 0) : (stepW e s x).1.flatMap entC = (s.1.flatMap entC ++ entC e) ++ entC x ∧ (stepW e s x).1.length = s.1.length + 1 + 1 ∧ (stepW e s x).2 = true := by
  unfold stepW
  rw [if_pos h]
  simp
theorem wi_flat1 (e x : Ent) (s : List Ent × Bool) (h : ¬ (s.2 = false ∧ compareP e.path x.path < 0)) : (stepW e s x).1.flatMap entC = s.1.flatMap entC ++ entC x ∧ (stepW e s x).1.length = s.1.length + 1 ∧ (stepW e s x).2 = s.2 := by
  unfold stepW
  rw [if_neg h]
  simp
set_option maxRecDepth 100000 in
set_option maxHeartbeats 4000000 in
theorem with_any (v : Value) (L : List Ent) (e : Ent) (w : World) (h : EntsAt w v L) (hl : L.length ≤ 1099511627776) (hb : ∀ x ∈ L, x.p.size ≤ 1099511627776) (he : e.p.size ≤ 1099511627776) :
    Calls Tryz.prog 145 #[v, .agg #[.string e.p, .int .i64 e.k, .int .i64 e.m, .string e.d, .string e.l]] w fun r w' => ∃ o cap, r = .returned (.slice o (withP e L).length cap) ∧ EntsAt w' (.slice o (withP e L).length cap) (withP e L) ∧ Below w.heap.size w w' ∧ ∀ b, o = some b → w.heap.size ≤ b.block := by
  obtain ⟨i0, hi, hz0, hz1, hz2⟩ := info_parts Tryz.infoEntry
  obtain ⟨o, cap, rfl, hlc, hcm, hcells⟩ := h
  obtain ⟨n, hn⟩ : ∃ n, n = L.length := ⟨_, rfl⟩
  rw [← hn] at hlc hl ⊢
  have Hi := Lib.hid hi
  have Hz0 := Lib.hid hz0
  have Hz1 := Lib.hid hz1
  have Hz2 := Lib.hid hz2
  have Hcells := Lib.hid hcells
  have Hn := Lib.hid hn
  have Hb := Lib.hid hb
  have He := Lib.hid he
  clear hcells hn hi hz0 hz1 hz2 hb he
  obtain ⟨w0, hw0⟩ : ∃ x, x = w.alloc (.cells #[.string e.p, .int .i64 e.k, .int .i64 e.m, .string e.d, .string e.l] 38) := ⟨_, rfl⟩
  obtain ⟨B, hB⟩ : ∃ B, B = w.heap.size := ⟨_, rfl⟩
  have hs0 : w0.heap.size = B + 1 := by rw [hw0, hB]; simp
  have hb0 : Below B w w0 := by rw [hw0, hB]; exact (Below.refl _ _).alloc (Nat.le_refl _) _
  have hx0 : w0.heap[B]? = some (.cells #[.string e.p, .int .i64 e.k, .int .i64 e.m, .string e.d, .string e.l] 38 (0, 0)) := by rw [hw0, hB]; exact World.alloc_heap_new w _
  have HB0 := Lib.hid hb0
  have HX0 := Lib.hid (show ∀ W, Below (B + 1) w0 W → W.heap[B]? = some (.cells #[.string e.p, .int .i64 e.k, .int .i64 e.m, .string e.d, .string e.l] 38 (0, 0)) from fun W hW => (hW.block B (by omega)).trans hx0)
  have HC := Lib.hid (show ∀ (k : Nat) x, L[k]? = some x → ∃ a, o = some a ∧ a.block < B + 1 ∧ ∀ W, Below (B + 1) w0 W → ∀ j u, (entC x)[j]? = some u → W.cell? ((a.add (k * 5)).add j) = some u from fun k x hk => by
    obtain ⟨a, rfl, hal, hcs⟩ := Hcells.out k x hk
    rw [← hB] at hal
    refine ⟨a, rfl, by omega, fun W hW j u hj => ?_⟩
    have := hcs j u hj
    unfold World.cell? at this ⊢
    rw [hW.block _ (by rw [add_block, add_block]; omega), hb0.block _ (by rw [add_block, add_block]; omega)]
    exact this)
  have HW0 := Lib.hid hw0
  have HBw := Lib.hid hB
  clear hb0 hx0 hw0 Hcells hB
  go_enter Tryz.func145, Tryz.ntmps145
  go_wp2
  rw [← HW0.out, ← HBw.out]
  go_loopw [5, 6, 7] (fun ov dv iv wr => ∃ (k m : Nat) (dn : Bool), iv = .int .i64 (k : Int) ∧ dv = .bool dn ∧ k ≤ n ∧ m ≤ k + 1 ∧ (dn = false → m ≤ k) ∧ m = (wiF e (L.take k)).1.length ∧ dn = (wiF e (L.take k)).2 ∧ wr.ownsRow (B + 1) 38 5 ov m ((wiF e (L.take k)).1.flatMap entC) ∧ Below (B + 1) w0 wr) (fun _ _ iv _ => n - (intOf iv).toNat)
  case atStart => exact ⟨0, 0, false, rfl, rfl, Nat.zero_le _, by omega, (fun _ => Nat.le_refl _), rfl, rfl, World.ownsRow_nil _ _ _ _, Below.refl _ _⟩
  case round =>
    obtain ⟨k, m, dn, rfl, rfl, hk, hmk, hmk2, hm, hdn, hrow, hbr⟩ := hrel
    have hbs := hbr.size
    rw [hs0] at hbs
    by_cases hlt : k < n
    · obtain ⟨x, hxk⟩ : ∃ x, L[k]? = some x := ⟨_, List.getElem?_eq_getElem (by rw [← Hn.out]; exact hlt)⟩
      obtain ⟨a, rfl, hal, hcs⟩ := HC.out k x hxk
      have Hcs := Lib.hid hcs
      have hes := Hb.out x (List.mem_of_getElem? hxk)
      have htk := wi_take (e := e) hxk
      have hrow' := Lib.hid hrow
      have Hbr := Lib.hid hbr
      have HNx := Lib.hid (show ∀ W : World, ∀ j u, (entC x)[j]? = some u → (W.alloc (.cells #[.string x.p, .int .i64 x.k, .int .i64 x.m, .string x.d, .string x.l] 38)).cell? ((⟨W.heap.size, 0, none⟩ : Addr).add j) = some u from fun W => ent_cells (World.alloc_heap_new W _))
      have HNe := Lib.hid (show ∀ W : World, ∀ j u, (entC e)[j]? = some u → (W.alloc (.cells #[.string e.p, .int .i64 e.k, .int .i64 e.m, .string e.d, .string e.l] 38)).cell? ((⟨W.heap.size, 0, none⟩ : Addr).add j) = some u from fun W => ent_cells (World.alloc_heap_new W _))
      cases dn with
      | true =>
        clear hmk2
        obtain ⟨q1, q2, q3⟩ := wi_flat1 e x (wiF e (L.take k)) (fun h => by rw [← hdn] at h; cases h.1)
        rw [← htk, ← hm] at q2
        rw [← htk, ← hdn] at q3
        rw [← htk] at q1
        have Hq1 := Lib.hid q1
        have Hq2 := Lib.hid q2
        have Hq3 := Lib.hid q3
        clear q1 q2 q3 htk hm hdn hrow hbr hcs hxk
        go_upto_region 6 with fail
        refine region_still_named (by kernel_rfl) (by kernel_rfl) ?_
        intro wz hz
        have hbz : Below (B + 1) w0 wz := by rw [hz]; exact below_drew1 Hbr.out
        have HRz := Lib.hid (show wz.ownsRow (B + 1) 38 5 u5 m ((wiF e (L.take k)).1.flatMap entC) from by rw [hz]; exact hrow'.out)
        have Hcz := Lib.hid (Hcs.out wz hbz)
        have hsz : B + 1 ≤ wz.heap.size := by have := hbz.size; omega
        have Hbz := Lib.hid hbz
        clear hz hbz Hbr hrow'
        iterate 3 still_step
        iterate 9 (rw [rs_skip]; rotate_left; rfl; simp only [Act.put, List.setIfInBounds_toArray, List.set_cons_zero, List.set_cons_succ])
        rw [rs_val (v := .bool false)]
        rotate_left
        rfl
        rfl
        simp only [Act.put, List.setIfInBounds_toArray, List.set_cons_zero, List.set_cons_succ]
        refine wpStill_nil ?_
        go_wp2_with (first
          | (refine wpList_load_at rfl _ _ rfl (a.add (k * 5)) rfl [.string x.p, .int .i64 x.k, .int .i64 x.m, .string x.d, .string x.l] _ Hcz.out Tryz.underlying38 rfl (by kernel_rfl) ?_)
          | (at_builtin; go_loud (refine wpList_append_own _ rfl _ _ 22 rfl (B + 1) 38 i0 _ 5 64 Tryz.underlying22 Hi.out Hz0.out Hz1.out Hz2.out rfl (by decide) _ _ _ rfl (HRz.out.alloc _) ⟨wz.heap.size, 0, none⟩ 1 1 [.string x.p, .int .i64 x.k, .int .i64 x.m, .string x.d, .string x.l] rfl rfl (HNx.out wz) (by simp [Value.oneCell']) (by unfold maxLen; omega) (by omega) (by simp; omega) ?_); intro v' w2 hown' hgrow _))
        go_roundw
        case rel => exact ⟨k + 1, m + 1, true, by go_num, rfl, by omega, by omega, (fun h => by cases h), Hq2.out.symm, Hq3.out.symm, by rw [Hq1.out]; exact hown', (Hbz.out.alloc (by omega) _).grown hgrow (by simp; omega) (fun i e => (World.ownsRow.lt HRz.out i e).1)⟩
        case measure => simp [intOf]; omega
      | false =>
        have hmk3 : m ≤ k := hmk2 rfl
        clear hmk2
        have hcmp := rcompare_any e.p x.p
        have c0 : ∀ d os, (grow (redrawn wr d) os).cell? ⟨B, 0, none⟩ = some (.string e.p) := fun d os => cell_regrown (by unfold World.cell?; rw [HX0.out wr Hbr.out]; rfl) d os
        have c1 : ∀ d os, (grow (redrawn wr d) os).cell? (a.add (k * 5)) = some (.string x.p) := fun d os => cell_regrown (by rw [← add_zero' (a.add (k * 5))]; exact hcs wr Hbr.out 0 _ rfl) d os
        have cF := fun d os => Calls.regrown_of (rcompare_any e.p x.p (grow (redrawn wr d) os) He.out hes)
        by_cases hc : compareP e.path x.path < 0
        · obtain ⟨q1, q2, q3⟩ := wi_flat2 e x (wiF e (L.take k)) ⟨hdn.symm, hc⟩
          rw [← htk, ← hm] at q2
          rw [← htk] at q1 q3
          have Hq1 := Lib.hid q1
          have Hq2 := Lib.hid q2
          have Hq3 := Lib.hid q3
          have hc1 : compareP e.p.data.toList x.p.data.toList < 0 := hc
          clear q1 q2 q3 htk hm hdn hrow hbr hcs hxk hcmp hc
          go_upto_region 6 with fail
          refine wp_region_quiet_below (by kernel_rfl) (by kernel_rfl) ?_
          repeat (quiet_step (exact cF _ _))
          refine wpQuiet_nil ?_
          intro wf hwf
          obtain ⟨⟨dq, oq⟩, hwf2⟩ := hwf
          have hbf : Below wr.heap.size wr wf := by rw [hwf2]; exact below_regrown wr dq oq
          have HRf := Lib.hid (row_below hrow'.out hbf)
          have hbw : Below (B + 1) w0 wf := Hbr.out.trans (hbf.mono hbs)
          have HXf := Lib.hid (ent_cells (HX0.out wf hbw))
          have hsf : B + 1 ≤ wf.heap.size := by have := hbw.size; omega
          have Hbw := Lib.hid hbw
          clear hwf2 hbf hbw c0 c1 cF hrow' Hbr
          go_wp2_with (first
            | (refine wpList_load_at rfl _ _ rfl ⟨B, 0, none⟩ rfl [.string e.p, .int .i64 e.k, .int .i64 e.m, .string e.d, .string e.l] _ HXf.out Tryz.underlying38 rfl (by kernel_rfl) ?_)
            | (at_builtin; go_loud (refine wpList_append_own _ rfl _ _ 22 rfl (B + 1) 38 i0 _ 5 64 Tryz.underlying22 Hi.out Hz0.out Hz1.out Hz2.out rfl (by decide) _ _ _ rfl (HRf.out.alloc _) ⟨wf.heap.size, 0, none⟩ 1 1 [.string e.p, .int .i64 e.k, .int .i64 e.m, .string e.d, .string e.l] rfl rfl (HNe.out wf) (by simp [Value.oneCell']) (by unfold maxLen; omega) (by omega) (by simp; omega) ?_); intro v2 w2 hown2 hgrow2 _
               have hb2 : Below (B + 1) w0 w2 := (Hbw.out.alloc (by omega) _).grown hgrow2 (by simp; omega) (fun i e => (World.ownsRow.lt HRf.out i e).1)
               have HR2 := Lib.hid hown2
               have Hc2 := Lib.hid (Hcs.out w2 hb2)
               have hs2 : B + 1 ≤ w2.heap.size := by have := hb2.size; omega
               have Hb2 := Lib.hid hb2
               clear hown2 hgrow2 hb2 HRf Hbw)
            | (refine wpList_load_at rfl _ _ rfl (a.add (k * 5)) rfl [.string x.p, .int .i64 x.k, .int .i64 x.m, .string x.d, .string x.l] _ Hc2.out Tryz.underlying38 rfl (by kernel_rfl) ?_)
            | (at_builtin; go_loud (refine wpList_append_own _ rfl _ _ 22 rfl (B + 1) 38 i0 _ 5 64 Tryz.underlying22 Hi.out Hz0.out Hz1.out Hz2.out rfl (by decide) _ _ _ rfl (HR2.out.alloc _) ⟨w2.heap.size, 0, none⟩ 1 1 [.string x.p, .int .i64 x.k, .int .i64 x.m, .string x.d, .string x.l] rfl rfl (HNx.out w2) (by simp [Value.oneCell']) (by unfold maxLen; omega) (by omega) (by simp; omega) ?_); intro v3 w3 hown3 hgrow3 _))
          go_roundw
          case rel => exact ⟨k + 1, m + 1 + 1, true, by go_num, rfl, by omega, by omega, (fun h => by cases h), Hq2.out.symm, Hq3.out.symm, by rw [Hq1.out]; exact hown3, (Hb2.out.alloc (by omega) _).grown hgrow3 (by simp; omega) (fun i e => (World.ownsRow.lt HR2.out i e).1)⟩
          case measure => simp [intOf]; omega
        · obtain ⟨q1, q2, q3⟩ := wi_flat1 e x (wiF e (L.take k)) (fun h => hc h.2)
          rw [← htk, ← hm] at q2
          rw [← htk, ← hdn] at q3
          rw [← htk] at q1
          have Hq1 := Lib.hid q1
          have Hq2 := Lib.hid q2
          have Hq3 := Lib.hid q3
          have hc1 : ¬ compareP e.p.data.toList x.p.data.toList < 0 := hc
          clear q1 q2 q3 htk hm hdn hrow hbr hcs hxk hcmp hc
          go_upto_region 6 with fail
          refine wp_region_quiet_below (by kernel_rfl) (by kernel_rfl) ?_
          repeat (quiet_step (exact cF _ _))
          refine wpQuiet_nil ?_
          intro wf hwf
          obtain ⟨⟨dq, oq⟩, hwf2⟩ := hwf
          have hbf : Below wr.heap.size wr wf := by rw [hwf2]; exact below_regrown wr dq oq
          have HRf := Lib.hid (row_below hrow'.out hbf)
          have hbw : Below (B + 1) w0 wf := Hbr.out.trans (hbf.mono hbs)
          have Hcf := Lib.hid (Hcs.out wf hbw)
          have hsf : B + 1 ≤ wf.heap.size := by have := hbw.size; omega
          have Hbw := Lib.hid hbw
          clear hwf2 hbf hbw c0 c1 cF hrow' Hbr
          go_wp2_with (first
            | (refine wpList_load_at rfl _ _ rfl (a.add (k * 5)) rfl [.string x.p, .int .i64 x.k, .int .i64 x.m, .string x.d, .string x.l] _ Hcf.out Tryz.underlying38 rfl (by kernel_rfl) ?_)
            | (at_builtin; go_loud (refine wpList_append_own _ rfl _ _ 22 rfl (B + 1) 38 i0 _ 5 64 Tryz.underlying22 Hi.out Hz0.out Hz1.out Hz2.out rfl (by decide) _ _ _ rfl (HRf.out.alloc _) ⟨wf.heap.size, 0, none⟩ 1 1 [.string x.p, .int .i64 x.k, .int .i64 x.m, .string x.d, .string x.l] rfl rfl (HNx.out wf) (by simp [Value.oneCell']) (by unfold maxLen; omega) (by omega) (by simp; omega) ?_); intro v2 w2 hown2 hgrow2 _))
          go_roundw
          case rel => exact ⟨k + 1, m + 1, false, by go_num, rfl, by omega, by omega, (fun _ => by omega), Hq2.out.symm, Hq3.out.symm, by rw [Hq1.out]; exact hown2, (Hbw.out.alloc (by omega) _).grown hgrow2 (by simp; omega) (fun i e => (World.ownsRow.lt HRf.out i e).1)⟩
          case measure => simp [intOf]; omega
    · obtain rfl : k = n := by omega
      have hfull : L.take k = L := by rw [Hn.out, List.take_length]
      rw [hfull] at hm hdn hrow
      have HR := Lib.hid hrow
      have Hbr := Lib.hid hbr
      have Hm := Lib.hid hm
      have HNe := Lib.hid (show ∀ W : World, ∀ j u, (entC e)[j]? = some u → (W.alloc (.cells #[.string e.p, .int .i64 e.k, .int .i64 e.m, .string e.d, .string e.l] 38)).cell? ((⟨W.heap.size, 0, none⟩ : Addr).add j) = some u from fun W => ent_cells (World.alloc_heap_new W _))
      have HXr := Lib.hid (ent_cells (HX0.out wr hbr))
      clear hmk2
      have hbase : Below B w wr := HB0.out.trans (hbr.mono (by omega))
      cases dn with
      | true =>
        have hw : withP e L = (wiF e L).1 := by unfold withP; rw [← hdn, if_pos rfl]
        have Hw := Lib.hid hw
        have Hbase := Lib.hid hbase
        clear hm hdn hrow hbr hbase hw
        go_wp2
        go_ret
        obtain ⟨o', c', rfl, h1, h2⟩ := ents_own (show wr.ownsRow (B + 1) 38 5 u5 (withP e L).length ((withP e L).flatMap entC) from by rw [Hw.out, ← Hm.out]; exact HR.out)
        exact ⟨o', c', rfl, h1, by rw [← HBw.out]; exact Hbase.out, fun b hb => by have := h2 b hb; rw [← HBw.out]; omega⟩
      | false =>
        have hw : withP e L = (wiF e L).1 ++ [e] := by unfold withP; rw [← hdn, if_neg (by decide)]
        have Hw := Lib.hid hw
        have Hbase := Lib.hid hbase
        clear hm hdn hrow hbr hbase hw
        go_wp2_with (first
          | (refine wpList_load_at rfl _ _ rfl ⟨B, 0, none⟩ rfl [.string e.p, .int .i64 e.k, .int .i64 e.m, .string e.d, .string e.l] _ HXr.out Tryz.underlying38 rfl (by kernel_rfl) ?_)
          | (at_builtin; go_loud (refine wpList_append_own _ rfl _ _ 22 rfl (B + 1) 38 i0 _ 5 64 Tryz.underlying22 Hi.out Hz0.out Hz1.out Hz2.out rfl (by decide) _ _ _ rfl (HR.out.alloc _) ⟨wr.heap.size, 0, none⟩ 1 1 [.string e.p, .int .i64 e.k, .int .i64 e.m, .string e.d, .string e.l] rfl rfl (HNe.out wr) (by simp [Value.oneCell']) (by unfold maxLen; omega) (by omega) (by simp; omega) ?_); intro v2 w2 hown2 hgrow2 _))
        go_ret
        obtain ⟨o', c', rfl, h1, h2⟩ := ents_own (show w2.ownsRow (B + 1) 38 5 v2 (withP e L).length ((withP e L).flatMap entC) from by
          rw [Hw.out, List.length_append, ← Hm.out, List.flatMap_append]
          simp only [List.flatMap_cons, List.flatMap_nil, List.append_nil]
          exact hown2)
        exact ⟨o', c', rfl, h1, by
          rw [← HBw.out]
          exact (Hbase.out.alloc (by omega) _).grown hgrow2 (by simp; omega) (fun i e => by have := (World.ownsRow.lt HR.out i e).1; omega), fun b hb => by have := h2 b hb; rw [← HBw.out]; omega⟩
end
section
open Go.RowKit Go.Maps Go.Shelf
open Go.Lib hiding intOf size_eq
set_option maxRecDepth 100000 in
set_option maxHeartbeats 1000000 in
theorem rmay_any (c q : ByteArray) (w : World) (hc : c.size ≤ 1099511627776) (hq : q.size ≤ 1099511627776) :
    Calls Tryz.prog 144 #[.string c, .string q] w fun r w' => r = .returned (.int .i64 (mayNo c.data.toList q.data.toList : Int)) ∧ Below w.heap.size w w' := by
  have h1 := rname_any c w (by omega)
  have h2 := rcheck_any q w hq
  unfold mayNo
  by_cases h0 : nameNo c.data.toList ≠ 0
  · rw [if_pos h0]
    generalize nameNo c.data.toList = n at *
    have b0 : ((n : Int) == 0) = false := by simp; omega
    have b1 : ((n : Int) != 0) = true := by simp; omega
    have b2 : ¬ ((n : Int) = 0) := by omega
    have H1 := Lib.hid h1
    clear h1 h2 h0
    go_enter Tryz.func144, Tryz.ntmps144
    go_wp2_with (go_at_call 146; refine H1.out.mono ?_; rintro r w2 ⟨rfl, rfl⟩)
    go_ret
    exact ⟨rfl, Below.refl _ _⟩
  · rw [if_neg h0]
    have h0' : nameNo c.data.toList = 0 := by omega
    rw [h0'] at h1
    have H1 := Lib.hid h1
    have H2 := Lib.hid h2
    clear h1 h2 h0 h0'
    go_enter Tryz.func144, Tryz.ntmps144
    go_wp2_with (first
      | (go_at_call 146; refine H1.out.mono ?_; rintro r w2 ⟨rfl, rfl⟩)
      | (go_at_call 125; refine H2.out.mono ?_; rintro r w2 ⟨rfl, hb⟩; have HB := Lib.hid hb; clear hb))
    go_ret
    exact ⟨rfl, HB.out⟩
set_option maxRecDepth 100000 in
set_option maxHeartbeats 2000000 in
theorem missing_may (oa lo ro : Option Addr) (tn tc ln lc rn rc : Nat) (st an c q : ByteArray) (hops : Int) (no s : Int) (dn : Bool) (w : World) (hs : s = 2 ∨ s = 3) (hc : c.size ≤ 1099511627776) (hq : q.size ≤ 1099511627776) (n : Nat) (hn : mayNo c.data.toList q.data.toList = n) (h0 : n ≠ 0) :
    Calls Tryz.prog 120 #[walkV oa tn tc st lo ln lc hops ro rn rc dn an no, .string c, .string q, .int .i64 s] w fun r w' => Below w.heap.size w w' ∧ r = .returned (walkV oa tn tc st lo ln lc hops ro rn rc dn an (n : Int)) := by
  unfold walkV
  have hm := fun W => rmay_any c q W hc hq
  rw [hn] at hm
  have HM := Lib.hid hm
  have b0 : ((n : Int) == 0) = false := by simp; omega
  have b1 : ((n : Int) != 0) = true := by simp; omega
  have b2 : ¬ ((n : Int) = 0) := by omega
  clear hm hn h0
  rcases hs with rfl | rfl
  all_goals
    go_enter Tryz.func120, Tryz.ntmps120
    go_wp2_with (first
      | (go_at_call 144; refine (HM.out _).mono ?_; rintro r w1 ⟨rfl, hb1⟩
         have hs1 : w.heap.size + 2 ≤ w1.heap.size := by have := hb1.size; simpa using this
         have HBX := Lib.hid ((hb1.block w.heap.size (by simp; omega)).trans (heap_alloc2_old w _ _))
         have HZ := Lib.hid ((hb1.block (w.heap.size + 1) (by simp)).trans (heap_alloc2_new w _ _))
         have HL := Lib.hid ((below2 w _ _).trans (hb1.mono (by simp; omega)))
         have zx0 := cell_of_row HBX.out (i := 0) rfl
         have zx2 := cell_of_row HBX.out (i := 2) rfl
         clear hb1)
      | (refine wpList_load_row rfl _ _ rfl w.heap.size rfl 80 _ (0, 0) _ HBX.out Tryz.underlying80 rfl (by kernel_rfl) ?_)
      | (go_at_call 121; refine (refused_any _ _ _ _ _ _ _ _ _ _ _ _ _ _ _ _).mono ?_; rintro r w2 ⟨rfl, hb2⟩
         have HB2 := Lib.hid ((hb2.block (w.heap.size + 1) (by omega)).trans HZ.out)
         have HL2 := Lib.hid (HL.out.trans (hb2.mono (by omega)))
         clear hb2
         unfold walkV)
      | (refine wpList_store_row rfl _ _ _ rfl (w.heap.size + 1) _ rfl rfl 80 _ HB2.out (by kernel_rfl) rfl (by kernel_rfl) ?_))
    exact bodyPost_ret_by (walk_ret rfl rfl (setRow_at HB2.out) rfl) rfl ⟨below_rowSet HL2.out (by omega) _, rfl⟩

set_option maxRecDepth 100000 in
set_option maxHeartbeats 2000000 in
theorem missing_last (oa lo ro : Option Addr) (tn tc ln lc rn rc : Nat) (st an c q : ByteArray) (hops : Int) (no s : Int) (dn : Bool) (w : World) (hs : s = 3) (hln : ln = 0) (hc : c.size ≤ 1099511627776) (hq : q.size ≤ 1099511627776) (hn : mayNo c.data.toList q.data.toList = 0) :
    Calls Tryz.prog 120 #[walkV oa tn tc st lo ln lc hops ro rn rc dn an no, .string c, .string q, .int .i64 s] w fun r w' => Below w.heap.size w w' ∧ r = .returned (walkV oa tn tc st lo ln lc hops ro rn rc true q no) := by
  unfold walkV
  have hm := fun W => rmay_any c q W hc hq
  rw [hn] at hm
  have HM := Lib.hid hm
  subst hs
  subst hln
  clear hm hn
  go_enter Tryz.func120, Tryz.ntmps120
  go_wp2_with (first
    | (go_at_call 144; refine (HM.out _).mono ?_; rintro r w1 ⟨rfl, hb1⟩
       have hs1 : w.heap.size + 2 ≤ w1.heap.size := by have := hb1.size; simpa using this
       have HBX := Lib.hid ((hb1.block w.heap.size (by simp; omega)).trans (heap_alloc2_old w _ _))
       have HZ := Lib.hid ((hb1.block (w.heap.size + 1) (by simp)).trans (heap_alloc2_new w _ _))
       have HL := Lib.hid ((below2 w _ _).trans (hb1.mono (by simp; omega)))
       have zx0 := cell_of_row HBX.out (i := 0) rfl
       have zx2 := cell_of_row HBX.out (i := 2) rfl
       clear hb1)
    | (refine wpList_load_row rfl _ _ rfl w.heap.size rfl 80 _ (0, 0) _ HBX.out Tryz.underlying80 rfl (by kernel_rfl) ?_)
    | (go_at_call 84; refine (ended_any _ _ _ _ _ _ _ _ _ _ _ _ _ _ _ _).mono ?_; rintro r w2 ⟨rfl, hb2⟩
       have HB2 := Lib.hid ((hb2.block (w.heap.size + 1) (by omega)).trans HZ.out)
       have HL2 := Lib.hid (HL.out.trans (hb2.mono (by omega)))
       clear hb2
       unfold walkV)
    | (refine wpList_store_row rfl _ _ _ rfl (w.heap.size + 1) _ rfl rfl 80 _ HB2.out (by kernel_rfl) rfl (by kernel_rfl) ?_))
  exact bodyPost_ret_by (walk_ret rfl rfl (setRow_at HB2.out) rfl) rfl ⟨below_rowSet HL2.out (by omega) _, rfl⟩

set_option maxRecDepth 100000 in
set_option maxHeartbeats 2000000 in
theorem missing_full (oa lo ro : Option Addr) (tn tc ln lc rn rc : Nat) (st an c q : ByteArray) (hops : Int) (no s : Int) (dn : Bool) (w : World) (hs : s = 2 ∨ s = 3 ∧ ln ≠ 0) (hc : c.size ≤ 1099511627776) (hq : q.size ≤ 1099511627776) (hn : mayNo c.data.toList q.data.toList = 0) (hfull : 4096 ≤ tn) :
    Calls Tryz.prog 120 #[walkV oa tn tc st lo ln lc hops ro rn rc dn an no, .string c, .string q, .int .i64 s] w fun r w' => Below w.heap.size w w' ∧ r = .returned (walkV oa tn tc st lo ln lc hops ro rn rc dn an 5) := by
  unfold walkV
  have hm := fun W => rmay_any c q W hc hq
  rw [hn] at hm
  have HM := Lib.hid hm
  have hs0 : s = 2 ∨ (s = 3 ∧ ((ln : Int) == 0) = false) := by
    rcases hs with h | ⟨h, h2⟩
    · exact .inl h
    · exact .inr ⟨h, by simp; omega⟩
  clear hm hn hs
  rcases hs0 with rfl | ⟨rfl, n0⟩
  all_goals
    go_enter Tryz.func120, Tryz.ntmps120
    go_wp2_with (first
      | (go_at_call 144; refine (HM.out _).mono ?_; rintro r w1 ⟨rfl, hb1⟩
         have hs1 : w.heap.size + 2 ≤ w1.heap.size := by have := hb1.size; simpa using this
         have HBX := Lib.hid ((hb1.block w.heap.size (by simp; omega)).trans (heap_alloc2_old w _ _))
         have HZ := Lib.hid ((hb1.block (w.heap.size + 1) (by simp)).trans (heap_alloc2_new w _ _))
         have HL := Lib.hid ((below2 w _ _).trans (hb1.mono (by simp; omega)))
         have zx0 := cell_of_row HBX.out (i := 0) rfl
         have zx2 := cell_of_row HBX.out (i := 2) rfl
         clear hb1)
      | (refine wpList_load_row rfl _ _ rfl w.heap.size rfl 80 _ (0, 0) _ HBX.out Tryz.underlying80 rfl (by kernel_rfl) ?_)
      | (go_at_call 121; refine (refused_any _ _ _ _ _ _ _ _ _ _ _ _ _ _ _ _).mono ?_; rintro r w2 ⟨rfl, hb2⟩
         have HB2 := Lib.hid ((hb2.block (w.heap.size + 1) (by omega)).trans HZ.out)
         have HL2 := Lib.hid (HL.out.trans (hb2.mono (by omega)))
         clear hb2
         unfold walkV)
      | (refine wpList_store_row rfl _ _ _ rfl (w.heap.size + 1) _ rfl rfl 80 _ HB2.out (by kernel_rfl) rfl (by kernel_rfl) ?_))
    exact bodyPost_ret_by (walk_ret rfl rfl (setRow_at HB2.out) rfl) rfl ⟨below_rowSet HL2.out (by omega) _, rfl⟩

set_option maxRecDepth 100000 in
set_option maxHeartbeats 2000000 in
theorem missing_made (L : List Ent) (oa lo ro : Option Addr) (tc ln lc rn rc : Nat) (st an c : ByteArray) (q : List UInt8) (hops : Int) (no s : Int) (dn : Bool) (w : World) (hs : s = 2 ∨ s = 3 ∧ ln ≠ 0) (hc : c.size ≤ 1099511627776) (hq : q.length ≤ 1099511627776)
    (hE : EntsAt w (.slice oa L.length tc) L) (hb : ∀ x ∈ L, x.p.size ≤ 1099511627776) (hn : mayNo c.data.toList q = 0) (hfull : L.length < 4096) (hl : lookE L q = none) :
    Calls Tryz.prog 120 #[walkV oa L.length tc st lo ln lc hops ro rn rc dn an no, .string c, .string (bs q), .int .i64 s] w fun r w' => Below w.heap.size w w' ∧
      ∃ oa' tc', r = .returned (walkV oa' (laidL L (dirE q)).length tc' (bs q) lo ln lc hops ro rn rc dn an no) ∧ EntsAt w' (.slice oa' (laidL L (dirE q)).length tc') (laidL L (dirE q)) ∧ ∀ b, oa' = some b → w.heap.size ≤ b.block := by
  have hm := fun W => rmay_any c (bs q) W hc (by rw [bs_size]; exact hq)
  rw [bs_toList, hn] at hm
  have HM := Lib.hid hm
  have hw := fun (W : World) (hW : EntsAt W (.slice oa L.length tc) L) => with_any (.slice oa L.length tc) L (dirE q) W hW (by omega) hb (by show (bs q).size ≤ _; rw [bs_size]; exact hq)
  rw [withP_laid (by rw [dirE_path]; exact hl)] at hw
  have HW := Lib.hid (show ∀ (W : World), EntsAt W (.slice oa L.length tc) L → Calls Tryz.prog 145 #[.slice oa L.length tc, .agg #[.string (bs q), .int .i64 1, .int .i64 493, .string ⟨#[]⟩, .string ⟨#[]⟩]] W fun r w' => ∃ o cap, r = .returned (.slice o (laidL L (dirE q)).length cap) ∧ EntsAt w' (.slice o (laidL L (dirE q)).length cap) (laidL L (dirE q)) ∧ Below W.heap.size W w' ∧ ∀ b, o = some b → W.heap.size ≤ b.block from hw)
  have HE := Lib.hid hE
  obtain ⟨n, hnL⟩ : ∃ n, n = L.length := ⟨_, rfl⟩
  obtain ⟨n2, hn2⟩ : ∃ n, n = (laidL L (dirE q)).length := ⟨_, rfl⟩
  rw [← hnL] at hfull HW HE ⊢
  rw [← hn2] at HW ⊢
  have hs0 : s = 2 ∨ (s = 3 ∧ ((ln : Int) == 0) = false) := by
    rcases hs with h | ⟨h, h2⟩
    · exact .inl h
    · exact .inr ⟨h, by simp; omega⟩
  unfold walkV
  clear hm hn hs hw hE hl hb hnL hn2
  rcases hs0 with rfl | ⟨rfl, n0⟩
  all_goals
    go_enter Tryz.func120, Tryz.ntmps120
    go_wp2_with (first
      | (go_at_call 144; refine (HM.out _).mono ?_; rintro r w1 ⟨rfl, hb1⟩
         have hs1 : w.heap.size + 2 ≤ w1.heap.size := by have := hb1.size; simpa using this
         have HBX := Lib.hid ((hb1.block w.heap.size (by simp; omega)).trans (heap_alloc2_old w _ _))
         have HZ := Lib.hid ((hb1.block (w.heap.size + 1) (by simp)).trans (heap_alloc2_new w _ _))
         have HL := Lib.hid ((below2 w _ _).trans (hb1.mono (by simp; omega)))
         have zx0 := cell_of_row HBX.out (i := 0) rfl
         have zx2 := cell_of_row HBX.out (i := 2) rfl
         clear hb1)
      | (go_at_call 145; refine (HW.out _ (HE.out.below HL.out (Nat.le_refl _))).mono ?_; rintro r w2 ⟨o2, c2, rfl, he2, hb2, hlo2⟩
         have hsb := hb2.size
         have hrow := (hb2.block w.heap.size (by omega)).trans HBX.out
         have fx0 := frozen_of_row hrow (i := 0)
         have cx0 := cell_of_row hrow (i := 0) rfl
         have h1 := heap_setCell_same w2 w.heap.size 0 _ _ (.slice o2 n2 c2) hrow
         have fy1 := frozen_of_row h1 (i := 1)
         have cy1 := cell_of_row h1 (i := 1) rfl
         have h2 := heap_setCell_same _ w.heap.size 1 _ _ (.string (bs q)) h1
         have HR := Lib.hid h2
         have HZ2 := Lib.hid ((heap_setCell_other (w2.setCell ⟨w.heap.size, 0, none⟩ (.slice o2 n2 c2)) ⟨w.heap.size, 1, none⟩ (w.heap.size + 1) (.string (bs q)) (by simp)).trans ((heap_setCell_other w2 ⟨w.heap.size, 0, none⟩ (w.heap.size + 1) (.slice o2 n2 c2) (by simp)).trans ((hb2.block (w.heap.size + 1) (by omega)).trans HZ.out)))
         have HL2 := Lib.hid (((HL.out.trans (hb2.mono (by omega))).setCell (p := ⟨w.heap.size, 0, none⟩) (Nat.le_refl _) (.slice o2 n2 c2)).setCell (p := ⟨w.heap.size, 1, none⟩) (Nat.le_refl _) (.string (bs q)))
         have HE2 := Lib.hid he2
         have Hlo2 := Lib.hid (fun b hb => (Nat.le_trans HL.out.size (hlo2 b hb) : w.heap.size ≤ b.block))
         have Hlo3 := Lib.hid hlo2
         clear hb2 hrow h1 h2 he2 hlo2)
      | (refine wpList_load_row rfl _ _ rfl w.heap.size rfl 80 _ (0, 0) _ HR.out Tryz.underlying80 rfl (by kernel_rfl) ?_)
      | (refine wpList_store_row rfl _ _ _ rfl (w.heap.size + 1) _ rfl rfl 80 _ HZ2.out (by kernel_rfl) rfl (by kernel_rfl) ?_))
    refine bodyPost_ret_by (walk_ret rfl rfl (setRow_at HZ2.out) rfl) rfl ⟨below_rowSet HL2.out (by omega) _, o2, c2, rfl, ?_, Hlo2.out⟩
    refine ents_keep HE2.out (by simp [World.setRow]) (fun b n9 c9 hv hL => ?_)
    injection hv with hv _ _
    have := Hlo3.out b hv
    rw [setRow_other _ _ _ _ (by omega), heap_setCell_other _ _ _ _ (by simp only []; omega), heap_setCell_other _ _ _ _ (by simp only []; omega)]
set_option maxRecDepth 100000 in
set_option maxHeartbeats 1000000 in
theorem step_notdirM (L : List Ent) (e : Ent) (oa lo ro : Option Addr) (tc lc rn rc : Nat) (a c : List UInt8) (left : List (List UInt8)) (hops : Nat) (s : Int) (w : World) (hE : EntsAt w (.slice oa L.length tc) L)
    (hlL : L.length ≤ 1099511627776) (hb : ∀ e ∈ L, e.p.size < 4611686018427387904) (ha : a.length ≤ 255) (hc : c.length ≤ 4294967296) (hl : LeftA w lo lc (c :: left)) (c1 : c ≠ [46]) (c2 : c ≠ [46, 46]) (hq : lookE L (joinP a c) = some e) (hk1 : e.k ≠ 1) (hk2 : e.k = 2) (hs : s = 2 ∨ s = 3 ∧ left ≠ []) :
    Calls Tryz.prog 83 #[walkV oa L.length tc (bs a) lo (c :: left).length lc hops ro rn rc false emp 0, .int .i64 s] w fun r w' => Below w.heap.size w w' ∧ StepRes w' w.heap.size lo oa L.length tc ro rn rc (joinP a c) (.error 13) r := by
  unfold walkV
  obtain ⟨ad, rfl, hca⟩ := hl.cell 0 _ rfl
  rw [add_zero, show encS c = .string (bs c) from rfl] at hca
  obtain ⟨n, hn⟩ : ∃ n, n = left.length := ⟨_, rfl⟩
  obtain ⟨nL, hnL⟩ : ∃ n, n = L.length := ⟨_, rfl⟩
  have hle := hl.le
  have hmx := hl.max
  have hal := hl.lt ad rfl
  rw [List.length_cons, ← hn] at hle ⊢
  have b1 : ((bs c).toList == [46]) = false := eqB_f (by rw [bs_toList]; exact c1)
  have b2 : ((bs c).toList == [46, 46]) = false := eqB_f (by rw [bs_toList]; exact c2)
  have HJ := Lib.hid (fun W => rjoin_any (bs a) (bs c) W (by rw [Lib.size_eq, Lib.size_eq, bs_toList, bs_toList]; omega))
  have hjl : (joinP a c).length ≤ 4294967552 := by
    unfold joinP; split
    · omega
    · simp; omega
  have HA := Lib.hid (fun W (hW : Below w.heap.size w W) => at_any _ L (bs (joinP a c)) W (hE.below hW (Nat.le_refl _)) hlL hb (by rw [Lib.size_eq, bs_toList]; omega))
  obtain ⟨k, hk, hLk⟩ := atIx_look hq
  rw [bs_toList, hk] at HA
  rw [bs_toList, bs_toList] at HJ
  have hkn : k < nL := by rw [hnL]; exact (List.getElem?_eq_some_iff.1 hLk).1
  have htc : nL ≤ tc ∧ tc ≤ maxLen := by
    obtain ⟨o, cap, hv, h1, h2, _⟩ := hE
    injection hv with h3 h4 h5
    subst h5
    exact ⟨by rw [hnL]; exact h1, h2⟩
  obtain ⟨htc1, htc2⟩ := htc
  obtain ⟨ta, rfl, htl, hcs⟩ : ∃ ta, oa = some ta ∧ ta.block < w.heap.size ∧ ∀ j x, (entC e)[j]? = some x → w.cell? ((ta.add (k * 5)).add j) = some x := by
    obtain ⟨o, cap, hv, h1, h2, h3⟩ := hE
    injection hv with h3' h4 h5
    subst h3'
    exact h3 k e hLk
  have tk : w.cell? ⟨(ta.add (k * 5)).block, (ta.add (k * 5)).off + 1, none⟩ = some (.int .i64 e.k) := hcs 1 _ rfl
  have tl : w.cell? ⟨(ta.add (k * 5)).block, (ta.add (k * 5)).off + 4, none⟩ = some (.string e.l) := hcs 4 _ rfl
  have htl2 : (ta.add (k * 5)).block < w.heap.size := by rw [add_block]; exact htl
  clear hcs
  have k1 : (e.k == 1) = false := by simpa using hk1
  have k2 : (e.k == 2) = true := by simpa using hk2
  have hs0 : s = 2 ∨ (s = 3 ∧ ((n : Int) == 0) = false) := by
    rcases hs with h | ⟨h, h2⟩
    · exact .inl h
    · refine .inr ⟨h, ?_⟩; have := List.length_pos_iff.2 h2; rw [← hn] at this; simp; omega
  clear hs
  have HM := Lib.hid (fun st lo ln lc W => refused_any (some ta) lo ro nL tc ln lc rn rc st emp hops 0 13 false W)
  unfold walkV at HM
  rw [← hnL] at HA ⊢
  generalize joinP a c = q at *
  have Hn := Lib.hid hn.symm
  clear hE hb hq hlL hnL hLk hk c1 c2 htl
  rcases tail_cases hl with ⟨hcap, h0, ht⟩ | ⟨hcap, h0, ht⟩
  all_goals
    try subst hcap
    try (rw [← hn] at h0; subst h0)
    have Hl := Lib.hid ht
    clear hl ht; try clear hn; try clear h0
    rcases hs0 with rfl | ⟨rfl, n0⟩
  all_goals
    go_enter Tryz.func83, Tryz.ntmps83
    go_wp2_with (first
      | (go_at_call 118; refine (HJ.out _).mono ?_; rintro e w' ⟨rfl, rfl⟩)
      | (go_at_call 119; refine (HA.out _ (below2 ..)).mono ?_; rintro e w' ⟨rfl, rfl⟩)
      | (go_at_call 121; refine (HM.out _ _ _ _ _).mono ?_; rintro r w2 ⟨rfl, hb2⟩
         have HB2 := Lib.hid ((hb2.block (w.heap.size + 1) (by simp)).trans (heap_alloc2_new w _ _))
         have HL2 := Lib.hid (below_world2 (hb2.mono (by simp)))
         clear hb2)
      | (refine wpList_store_row rfl _ _ _ rfl (w.heap.size + 1) _ rfl rfl 80 _ HB2.out (by kernel_rfl) rfl (by kernel_rfl) ?_))
    all_goals exact bodyPost_ret_by (walk_ret rfl rfl (setRow_at HB2.out) rfl) rfl ⟨below_rowSet HL2.out (by omega) _, by decide, _, _, _, _, _, rfl⟩

set_option maxRecDepth 100000 in
set_option maxHeartbeats 1000000 in
theorem step_fileM (L : List Ent) (e : Ent) (oa lo ro : Option Addr) (tc lc rn rc : Nat) (a c : List UInt8) (left : List (List UInt8)) (hops : Nat) (s : Int) (w : World) (hE : EntsAt w (.slice oa L.length tc) L)
    (hlL : L.length ≤ 1099511627776) (hb : ∀ e ∈ L, e.p.size < 4611686018427387904) (ha : a.length ≤ 255) (hc : c.length ≤ 4294967296) (hl : LeftA w lo lc (c :: left)) (c1 : c ≠ [46]) (c2 : c ≠ [46, 46]) (hq : lookE L (joinP a c) = some e) (hk1 : e.k ≠ 1) (hk2 : e.k = 2) (hs : s = 3) (hleft : left = []) :
    Calls Tryz.prog 83 #[walkV oa L.length tc (bs a) lo (c :: left).length lc hops ro rn rc false emp 0, .int .i64 s] w fun r w' => Below w.heap.size w w' ∧ StepRes w' w.heap.size lo oa L.length tc ro rn rc (joinP a c) (.ok none) r := by
  unfold walkV
  obtain ⟨ad, rfl, hca⟩ := hl.cell 0 _ rfl
  rw [add_zero, show encS c = .string (bs c) from rfl] at hca
  obtain ⟨n, hn⟩ : ∃ n, n = left.length := ⟨_, rfl⟩
  obtain ⟨nL, hnL⟩ : ∃ n, n = L.length := ⟨_, rfl⟩
  have hle := hl.le
  have hmx := hl.max
  have hal := hl.lt ad rfl
  rw [List.length_cons, ← hn] at hle ⊢
  have b1 : ((bs c).toList == [46]) = false := eqB_f (by rw [bs_toList]; exact c1)
  have b2 : ((bs c).toList == [46, 46]) = false := eqB_f (by rw [bs_toList]; exact c2)
  have HJ := Lib.hid (fun W => rjoin_any (bs a) (bs c) W (by rw [Lib.size_eq, Lib.size_eq, bs_toList, bs_toList]; omega))
  have hjl : (joinP a c).length ≤ 4294967552 := by
    unfold joinP; split
    · omega
    · simp; omega
  have HA := Lib.hid (fun W (hW : Below w.heap.size w W) => at_any _ L (bs (joinP a c)) W (hE.below hW (Nat.le_refl _)) hlL hb (by rw [Lib.size_eq, bs_toList]; omega))
  obtain ⟨k, hk, hLk⟩ := atIx_look hq
  rw [bs_toList, hk] at HA
  rw [bs_toList, bs_toList] at HJ
  have hkn : k < nL := by rw [hnL]; exact (List.getElem?_eq_some_iff.1 hLk).1
  have htc : nL ≤ tc ∧ tc ≤ maxLen := by
    obtain ⟨o, cap, hv, h1, h2, _⟩ := hE
    injection hv with h3 h4 h5
    subst h5
    exact ⟨by rw [hnL]; exact h1, h2⟩
  obtain ⟨htc1, htc2⟩ := htc
  obtain ⟨ta, rfl, htl, hcs⟩ : ∃ ta, oa = some ta ∧ ta.block < w.heap.size ∧ ∀ j x, (entC e)[j]? = some x → w.cell? ((ta.add (k * 5)).add j) = some x := by
    obtain ⟨o, cap, hv, h1, h2, h3⟩ := hE
    injection hv with h3' h4 h5
    subst h3'
    exact h3 k e hLk
  have tk : w.cell? ⟨(ta.add (k * 5)).block, (ta.add (k * 5)).off + 1, none⟩ = some (.int .i64 e.k) := hcs 1 _ rfl
  have tl : w.cell? ⟨(ta.add (k * 5)).block, (ta.add (k * 5)).off + 4, none⟩ = some (.string e.l) := hcs 4 _ rfl
  have htl2 : (ta.add (k * 5)).block < w.heap.size := by rw [add_block]; exact htl
  clear hcs
  have k1 : (e.k == 1) = false := by simpa using hk1
  have k2 : (e.k == 2) = true := by simpa using hk2
  obtain rfl : n = 0 := by rw [hn, hleft]; rfl
  subst hs
  clear hleft
  have HM := Lib.hid (fun st lo ln lc W => ended_any (some ta) lo ro nL tc ln lc rn rc st emp (bs (joinP a c)) hops 0 false W)
  unfold walkV at HM
  rw [← hnL] at HA ⊢
  generalize joinP a c = q at *
  have Hn := Lib.hid hn.symm
  clear hE hb hq hlL hnL hLk hk c1 c2 htl
  rcases tail_cases hl with ⟨hcap, h0, ht⟩ | ⟨hcap, h0, ht⟩
  all_goals
    try subst hcap
    try (rw [← hn] at h0; subst h0)
    have Hl := Lib.hid ht
    clear hl ht; try clear hn; try clear h0

    go_enter Tryz.func83, Tryz.ntmps83
    go_wp2_with (first
      | (go_at_call 118; refine (HJ.out _).mono ?_; rintro e w' ⟨rfl, rfl⟩)
      | (go_at_call 119; refine (HA.out _ (below2 ..)).mono ?_; rintro e w' ⟨rfl, rfl⟩)
      | (go_at_call 84; refine (HM.out _ _ _ _ _).mono ?_; rintro r w2 ⟨rfl, hb2⟩
         have HB2 := Lib.hid ((hb2.block (w.heap.size + 1) (by simp)).trans (heap_alloc2_new w _ _))
         have HL2 := Lib.hid (below_world2 (hb2.mono (by simp)))
         clear hb2)
      | (refine wpList_store_row rfl _ _ _ rfl (w.heap.size + 1) _ rfl rfl 80 _ HB2.out (by kernel_rfl) rfl (by kernel_rfl) ?_))
    all_goals exact bodyPost_ret_by (walk_ret rfl rfl (setRow_at HB2.out) rfl) rfl ⟨below_rowSet HL2.out (by omega) _, _, _, _, _, _, rfl⟩

set_option maxRecDepth 100000 in
set_option maxHeartbeats 1000000 in
theorem step_loopM (L : List Ent) (e : Ent) (oa lo ro : Option Addr) (tc lc rn rc : Nat) (a c : List UInt8) (left : List (List UInt8)) (hops : Nat) (s : Int) (w : World) (hE : EntsAt w (.slice oa L.length tc) L)
    (hlL : L.length ≤ 1099511627776) (hb : ∀ e ∈ L, e.p.size < 4611686018427387904) (ha : a.length ≤ 255) (hc : c.length ≤ 4294967296) (hl : LeftA w lo lc (c :: left)) (c1 : c ≠ [46]) (c2 : c ≠ [46, 46]) (hq : lookE L (joinP a c) = some e) (hk1 : e.k ≠ 1) (hk2 : e.k ≠ 2) (hs : s = 2 ∨ s = 3) (hl0 : e.l.data.toList ≠ []) (hl1 : e.l.size ≤ 1099511627776) (hll : left.length ≤ 1099511627776) (hh : hops ≤ 40) (h40 : hops = 40) :
    Calls Tryz.prog 83 #[walkV oa L.length tc (bs a) lo (c :: left).length lc hops ro rn rc false emp 0, .int .i64 s] w fun r w' => Below w.heap.size w w' ∧ StepRes w' w.heap.size lo oa L.length tc ro rn rc (joinP a c) (.error 12) r := by
  unfold walkV
  obtain ⟨ad, rfl, hca⟩ := hl.cell 0 _ rfl
  rw [add_zero, show encS c = .string (bs c) from rfl] at hca
  obtain ⟨n, hn⟩ : ∃ n, n = left.length := ⟨_, rfl⟩
  obtain ⟨nL, hnL⟩ : ∃ n, n = L.length := ⟨_, rfl⟩
  have hle := hl.le
  have hmx := hl.max
  have hal := hl.lt ad rfl
  rw [List.length_cons, ← hn] at hle ⊢
  have b1 : ((bs c).toList == [46]) = false := eqB_f (by rw [bs_toList]; exact c1)
  have b2 : ((bs c).toList == [46, 46]) = false := eqB_f (by rw [bs_toList]; exact c2)
  have HJ := Lib.hid (fun W => rjoin_any (bs a) (bs c) W (by rw [Lib.size_eq, Lib.size_eq, bs_toList, bs_toList]; omega))
  have hjl : (joinP a c).length ≤ 4294967552 := by
    unfold joinP; split
    · omega
    · simp; omega
  have HA := Lib.hid (fun W (hW : Below w.heap.size w W) => at_any _ L (bs (joinP a c)) W (hE.below hW (Nat.le_refl _)) hlL hb (by rw [Lib.size_eq, bs_toList]; omega))
  obtain ⟨k, hk, hLk⟩ := atIx_look hq
  rw [bs_toList, hk] at HA
  rw [bs_toList, bs_toList] at HJ
  have hkn : k < nL := by rw [hnL]; exact (List.getElem?_eq_some_iff.1 hLk).1
  have htc : nL ≤ tc ∧ tc ≤ maxLen := by
    obtain ⟨o, cap, hv, h1, h2, _⟩ := hE
    injection hv with h3 h4 h5
    subst h5
    exact ⟨by rw [hnL]; exact h1, h2⟩
  obtain ⟨htc1, htc2⟩ := htc
  obtain ⟨ta, rfl, htl, hcs⟩ : ∃ ta, oa = some ta ∧ ta.block < w.heap.size ∧ ∀ j x, (entC e)[j]? = some x → w.cell? ((ta.add (k * 5)).add j) = some x := by
    obtain ⟨o, cap, hv, h1, h2, h3⟩ := hE
    injection hv with h3' h4 h5
    subst h3'
    exact h3 k e hLk
  have tk : w.cell? ⟨(ta.add (k * 5)).block, (ta.add (k * 5)).off + 1, none⟩ = some (.int .i64 e.k) := hcs 1 _ rfl
  have tl : w.cell? ⟨(ta.add (k * 5)).block, (ta.add (k * 5)).off + 4, none⟩ = some (.string e.l) := hcs 4 _ rfl
  have htl2 : (ta.add (k * 5)).block < w.heap.size := by rw [add_block]; exact htl
  clear hcs
  have k1 : (e.k == 1) = false := by simpa using hk1
  have k2 : (e.k == 2) = false := by simpa using hk2
  have HF := Lib.hid (fun o cap W (hW : LeftA W o cap left) => (followed_any (some ta) o ro nL tc cap rn rc left (bs a) emp e.l hops 0 false W hW hl0 hl1 hll hh).mono (fun _ _ h => (⟨h.1, h.2.1 h40⟩ : _ ∧ _)))
  unfold walkV at HF
  rw [← hn] at HF
  have hs0 := hs
  clear hl0 hll hs hl1 h40 hh
  rw [← hnL] at HA ⊢
  generalize joinP a c = q at *
  have Hn := Lib.hid hn.symm
  clear hE hb hq hlL hnL hLk hk c1 c2 htl
  rcases tail_cases hl with ⟨hcap, h0, ht⟩ | ⟨hcap, h0, ht⟩
  all_goals
    try subst hcap
    try (rw [← hn] at h0; subst h0)
    have Hl := Lib.hid ht
    clear hl ht; try clear hn; try clear h0
    rcases hs0 with rfl | rfl
  all_goals
    go_enter Tryz.func83, Tryz.ntmps83
    go_wp2_with (first
      | (go_at_call 118; refine (HJ.out _).mono ?_; rintro e w' ⟨rfl, rfl⟩)
      | (go_at_call 119; refine (HA.out _ (below2 ..)).mono ?_; rintro e w' ⟨rfl, rfl⟩))
    all_goals
      refine region_tail_named 7 (by kernel_rfl) (by kernel_rfl) ?_
      intro wz hz
      simp only [List.take_succ_cons, List.take_zero, List.drop_succ_cons, List.drop_zero]
      have HBZ := Lib.hid (show wz.heap[w.heap.size]? = some _ from (congrArg (fun (x : World) => x.heap[w.heap.size]?) hz).trans (heap_alloc2_old w _ _))
      have HZZ := Lib.hid (show wz.heap[w.heap.size + 1]? = some _ from (congrArg (fun (x : World) => x.heap[w.heap.size + 1]?) hz).trans (heap_alloc2_new w _ _))
      have hbz : Below w.heap.size w wz := by rw [hz]; exact below_drew1 (below2 ..)
      have hsz : wz.heap.size = w.heap.size + 2 := by rw [hz]; show ((w.alloc _).alloc _).heap.size = _; simp
      have z0 : wz.cell? ⟨w.heap.size, 0, none⟩ = some (.slice (some ta) nL tc) := by unfold World.cell?; rw [HBZ.out]; rfl
      have zl : wz.cell? ⟨(ta.add (k * 5)).block, (ta.add (k * 5)).off + 4, none⟩ = some (.string e.l) := by
        have := hbz.block (ta.add (k * 5)).block htl2
        unfold World.cell? at tl ⊢
        rw [this]; exact tl
      have Hlz := Lib.hid (Hl.out.below hbz (Nat.le_refl _))
      have Hbz := Lib.hid hbz
      clear hz hbz
      refine still_load_row rfl _ _ rfl w.heap.size rfl 80 _ (0, 0) _ HBZ.out Tryz.underlying80 rfl (by kernel_rfl) ?_
      repeat still_step
      refine wpStill_nil ?_
      go_wp2_with (first
        | (go_at_call 122; refine (HF.out _ _ _ Hlz.out).mono ?_; rintro r w2 ⟨hb2, rfl⟩
           have HB2 := Lib.hid ((hb2.block (w.heap.size + 1) (by omega)).trans HZZ.out)
           have HL2 := Lib.hid (Hbz.out.trans (hb2.mono (by omega)))
           clear hb2)
        | (refine wpList_store_row rfl _ _ _ rfl (w.heap.size + 1) _ rfl rfl 80 _ HB2.out (by kernel_rfl) rfl (by kernel_rfl) ?_))
      all_goals exact bodyPost_ret_by (walk_ret rfl rfl (setRow_at HB2.out) rfl) rfl ⟨below_rowSet HL2.out (by omega) _, by decide, _, _, _, _, _, rfl⟩

set_option maxRecDepth 100000 in
set_option maxHeartbeats 1000000 in
theorem step_linkM (L : List Ent) (e : Ent) (oa lo ro : Option Addr) (tc lc rn rc : Nat) (a c : List UInt8) (left : List (List UInt8)) (hops : Nat) (s : Int) (w : World) (hE : EntsAt w (.slice oa L.length tc) L)
    (hlL : L.length ≤ 1099511627776) (hb : ∀ e ∈ L, e.p.size < 4611686018427387904) (ha : a.length ≤ 255) (hc : c.length ≤ 4294967296) (hl : LeftA w lo lc (c :: left)) (c1 : c ≠ [46]) (c2 : c ≠ [46, 46]) (hq : lookE L (joinP a c) = some e) (hk1 : e.k ≠ 1) (hk2 : e.k ≠ 2) (hs : s = 2 ∨ s = 3) (hl0 : e.l.data.toList ≠ []) (hl1 : e.l.size ≤ 1099511627776) (hll : left.length ≤ 1099511627776) (hh : hops ≤ 40) (h40 : hops ≠ 40) :
    Calls Tryz.prog 83 #[walkV oa L.length tc (bs a) lo (c :: left).length lc hops ro rn rc false emp 0, .int .i64 s] w fun r w' => Below w.heap.size w w' ∧ StepRes w' w.heap.size lo oa L.length tc ro rn rc (joinP a c) (.ok (some (linkAt a e, pieces e.l.data.toList ++ left, hops + 1))) r := by
  unfold walkV
  obtain ⟨ad, rfl, hca⟩ := hl.cell 0 _ rfl
  rw [add_zero, show encS c = .string (bs c) from rfl] at hca
  obtain ⟨n, hn⟩ : ∃ n, n = left.length := ⟨_, rfl⟩
  obtain ⟨nL, hnL⟩ : ∃ n, n = L.length := ⟨_, rfl⟩
  have hle := hl.le
  have hmx := hl.max
  have hal := hl.lt ad rfl
  rw [List.length_cons, ← hn] at hle ⊢
  have b1 : ((bs c).toList == [46]) = false := eqB_f (by rw [bs_toList]; exact c1)
  have b2 : ((bs c).toList == [46, 46]) = false := eqB_f (by rw [bs_toList]; exact c2)
  have HJ := Lib.hid (fun W => rjoin_any (bs a) (bs c) W (by rw [Lib.size_eq, Lib.size_eq, bs_toList, bs_toList]; omega))
  have hjl : (joinP a c).length ≤ 4294967552 := by
    unfold joinP; split
    · omega
    · simp; omega
  have HA := Lib.hid (fun W (hW : Below w.heap.size w W) => at_any _ L (bs (joinP a c)) W (hE.below hW (Nat.le_refl _)) hlL hb (by rw [Lib.size_eq, bs_toList]; omega))
  obtain ⟨k, hk, hLk⟩ := atIx_look hq
  rw [bs_toList, hk] at HA
  rw [bs_toList, bs_toList] at HJ
  have hkn : k < nL := by rw [hnL]; exact (List.getElem?_eq_some_iff.1 hLk).1
  have htc : nL ≤ tc ∧ tc ≤ maxLen := by
    obtain ⟨o, cap, hv, h1, h2, _⟩ := hE
    injection hv with h3 h4 h5
    subst h5
    exact ⟨by rw [hnL]; exact h1, h2⟩
  obtain ⟨htc1, htc2⟩ := htc
  obtain ⟨ta, rfl, htl, hcs⟩ : ∃ ta, oa = some ta ∧ ta.block < w.heap.size ∧ ∀ j x, (entC e)[j]? = some x → w.cell? ((ta.add (k * 5)).add j) = some x := by
    obtain ⟨o, cap, hv, h1, h2, h3⟩ := hE
    injection hv with h3' h4 h5
    subst h3'
    exact h3 k e hLk
  have tk : w.cell? ⟨(ta.add (k * 5)).block, (ta.add (k * 5)).off + 1, none⟩ = some (.int .i64 e.k) := hcs 1 _ rfl
  have tl : w.cell? ⟨(ta.add (k * 5)).block, (ta.add (k * 5)).off + 4, none⟩ = some (.string e.l) := hcs 4 _ rfl
  have htl2 : (ta.add (k * 5)).block < w.heap.size := by rw [add_block]; exact htl
  clear hcs
  have k1 : (e.k == 1) = false := by simpa using hk1
  have k2 : (e.k == 2) = false := by simpa using hk2
  have HF := Lib.hid (fun o cap W (hW : LeftA W o cap left) => (followed_any (some ta) o ro nL tc cap rn rc left (bs a) emp e.l hops 0 false W hW hl0 hl1 hll hh).mono (fun _ _ h => (⟨h.1, h.2.2 h40⟩ : _ ∧ _)))
  unfold walkV at HF
  rw [← hn] at HF
  have hs0 := hs
  clear hl0 hll hs hl1 h40 hh
  rw [← hnL] at HA ⊢
  generalize joinP a c = q at *
  have Hn := Lib.hid hn.symm
  clear hE hb hq hlL hnL hLk hk c1 c2 htl
  rcases tail_cases hl with ⟨hcap, h0, ht⟩ | ⟨hcap, h0, ht⟩
  all_goals
    try subst hcap
    try (rw [← hn] at h0; subst h0)
    have Hl := Lib.hid ht
    clear hl ht; try clear hn; try clear h0
    rcases hs0 with rfl | rfl
  all_goals
    go_enter Tryz.func83, Tryz.ntmps83
    go_wp2_with (first
      | (go_at_call 118; refine (HJ.out _).mono ?_; rintro e w' ⟨rfl, rfl⟩)
      | (go_at_call 119; refine (HA.out _ (below2 ..)).mono ?_; rintro e w' ⟨rfl, rfl⟩))
    all_goals
      refine region_tail_named 7 (by kernel_rfl) (by kernel_rfl) ?_
      intro wz hz
      simp only [List.take_succ_cons, List.take_zero, List.drop_succ_cons, List.drop_zero]
      have HBZ := Lib.hid (show wz.heap[w.heap.size]? = some _ from (congrArg (fun (x : World) => x.heap[w.heap.size]?) hz).trans (heap_alloc2_old w _ _))
      have HZZ := Lib.hid (show wz.heap[w.heap.size + 1]? = some _ from (congrArg (fun (x : World) => x.heap[w.heap.size + 1]?) hz).trans (heap_alloc2_new w _ _))
      have hbz : Below w.heap.size w wz := by rw [hz]; exact below_drew1 (below2 ..)
      have hsz : wz.heap.size = w.heap.size + 2 := by rw [hz]; show ((w.alloc _).alloc _).heap.size = _; simp
      have z0 : wz.cell? ⟨w.heap.size, 0, none⟩ = some (.slice (some ta) nL tc) := by unfold World.cell?; rw [HBZ.out]; rfl
      have zl : wz.cell? ⟨(ta.add (k * 5)).block, (ta.add (k * 5)).off + 4, none⟩ = some (.string e.l) := by
        have := hbz.block (ta.add (k * 5)).block htl2
        unfold World.cell? at tl ⊢
        rw [this]; exact tl
      have Hlz := Lib.hid (Hl.out.below hbz (Nat.le_refl _))
      have Hbz := Lib.hid hbz
      clear hz hbz
      refine still_load_row rfl _ _ rfl w.heap.size rfl 80 _ (0, 0) _ HBZ.out Tryz.underlying80 rfl (by kernel_rfl) ?_
      repeat still_step
      refine wpStill_nil ?_
      go_wp2_with (first
        | (go_at_call 122; refine (HF.out _ _ _ Hlz.out).mono ?_; rintro r w2 ⟨hb2, o9, c9, rfl, hla9⟩
           have HB2 := Lib.hid ((hb2.block (w.heap.size + 1) (by omega)).trans HZZ.out)
           have HL2 := Lib.hid (Hbz.out.trans (hb2.mono (by omega)))
           have HLA := Lib.hid hla9
           clear hb2 hla9)
        | (refine wpList_store_row rfl _ _ _ rfl (w.heap.size + 1) _ rfl rfl 80 _ HB2.out (by kernel_rfl) rfl (by kernel_rfl) ?_))
      all_goals exact bodyPost_ret_by (walk_ret rfl rfl (setRow_at HB2.out) rfl) rfl ⟨below_rowSet HL2.out (by omega) _, o9, c9, by rw [linkB_at]; unfold walkV; simp, HLA.out.1.rowSet _ _ (fun b hb e => by have := HLA.out.2 b hb; omega), fun b hb => .inl (by have := HLA.out.2 b hb; omega)⟩

set_option maxRecDepth 100000 in
set_option maxHeartbeats 1000000 in
theorem step_mayM (L : List Ent) (oa lo ro : Option Addr) (tc lc rn rc : Nat) (a c : List UInt8) (left : List (List UInt8)) (hops : Nat) (s : Int) (w : World) (hs : s = 2 ∨ s = 3) (hE : EntsAt w (.slice oa L.length tc) L)
    (hlL : L.length ≤ 1099511627776) (hb : ∀ e ∈ L, e.p.size ≤ 1099511627776) (ha : a.length ≤ 255) (hc : c.length ≤ 4294967296) (hl : LeftA w lo lc (c :: left)) (c1 : c ≠ [46]) (c2 : c ≠ [46, 46]) (hq : lookE L (joinP a c) = none) (h0 : mayNo c (joinP a c) ≠ 0) :
    Calls Tryz.prog 83 #[walkV oa L.length tc (bs a) lo (c :: left).length lc hops ro rn rc false emp 0, .int .i64 s] w fun r w' => Below w.heap.size w w' ∧ StepRes w' w.heap.size lo oa L.length tc ro rn rc (joinP a c) (.error (mayNo c (joinP a c))) r := by
  unfold walkV
  obtain ⟨ad, rfl, hca⟩ := hl.cell 0 _ rfl
  rw [add_zero, show encS c = .string (bs c) from rfl] at hca
  obtain ⟨n, hn⟩ : ∃ n, n = left.length := ⟨_, rfl⟩
  obtain ⟨nL, hnL⟩ : ∃ n, n = L.length := ⟨_, rfl⟩
  have hle := hl.le
  have hmx := hl.max
  have hal := hl.lt ad rfl
  rw [List.length_cons, ← hn] at hle ⊢
  have b1 : ((bs c).toList == [46]) = false := eqB_f (by rw [bs_toList]; exact c1)
  have b2 : ((bs c).toList == [46, 46]) = false := eqB_f (by rw [bs_toList]; exact c2)
  have HJ := Lib.hid (fun W => rjoin_any (bs a) (bs c) W (by rw [Lib.size_eq, Lib.size_eq, bs_toList, bs_toList]; omega))
  have hjl : (joinP a c).length ≤ 4294967552 := by
    unfold joinP; split
    · omega
    · simp; omega
  have HA := Lib.hid (fun W (hW : Below w.heap.size w W) => at_any _ L (bs (joinP a c)) W (hE.below hW (Nat.le_refl _)) hlL (fun e he => by have := hb e he; omega) (by rw [Lib.size_eq, bs_toList]; omega))
  rw [bs_toList, atIx_miss hq] at HA
  rw [bs_toList, bs_toList] at HJ
  have hcz : (bs c).size ≤ 1099511627776 := by rw [bs_size]; omega
  have hqz : (bs (joinP a c)).size ≤ 1099511627776 := by rw [bs_size]; omega
  obtain ⟨N, hN⟩ : ∃ N, N = mayNo c (joinP a c) := ⟨_, rfl⟩
  rw [← hN] at h0 ⊢
  have HM := Lib.hid (fun st lo ln lc W => missing_may oa lo ro L.length tc ln lc rn rc st emp (bs c) (bs (joinP a c)) hops 0 s false W hs hcz hqz N (by rw [bs_toList, bs_toList]; exact hN.symm) h0)
  have H0 := Lib.hid h0
  clear hN h0 hcz hqz
  unfold walkV at HM
  rw [← hnL] at HA HM ⊢
  generalize joinP a c = q at *
  have Hn := Lib.hid (show left.length = n from hn.symm)
  have HnL := Lib.hid hnL
  clear hE hb hq hs hlL hnL
  rcases tail_cases hl with ⟨hcap, h0, ht⟩ | ⟨hcap, h0, ht⟩
  all_goals
    try subst hcap
    try (rw [← hn] at h0; subst h0)
    clear hl ht; try clear hn; try clear h0
    go_enter Tryz.func83, Tryz.ntmps83
    go_wp2_with (first
      | (go_at_call 118; refine (HJ.out _).mono ?_; rintro e w' ⟨rfl, rfl⟩)
      | (go_at_call 119; refine (HA.out _ (below2 ..)).mono ?_; rintro e w' ⟨rfl, rfl⟩)
      | (go_at_call 120; refine (HM.out _ _ _ _ _).mono ?_; rintro r w2 ⟨hb2, rfl⟩
         have HB2 := Lib.hid ((hb2.block (w.heap.size + 1) (by simp)).trans (heap_alloc2_new w _ _))
         have HL2 := Lib.hid (below_world2 (hb2.mono (by simp)))
         clear hb2)
      | (refine wpList_store_row rfl _ _ _ rfl (w.heap.size + 1) _ rfl rfl 80 _ HB2.out (by kernel_rfl) rfl (by kernel_rfl) ?_))
    exact bodyPost_ret_by (walk_ret rfl rfl (setRow_at HB2.out) rfl) rfl ⟨below_rowSet HL2.out (by omega) _, H0.out, _, _, _, _, _, rfl⟩

set_option maxRecDepth 100000 in
set_option maxHeartbeats 1000000 in
theorem step_lastM (L : List Ent) (oa lo ro : Option Addr) (tc lc rn rc : Nat) (a c : List UInt8) (left : List (List UInt8)) (hops : Nat) (s : Int) (w : World) (hs : s = 3) (hE : EntsAt w (.slice oa L.length tc) L)
    (hlL : L.length ≤ 1099511627776) (hb : ∀ e ∈ L, e.p.size ≤ 1099511627776) (ha : a.length ≤ 255) (hc : c.length ≤ 4294967296) (hl : LeftA w lo lc (c :: left)) (c1 : c ≠ [46]) (c2 : c ≠ [46, 46]) (hq : lookE L (joinP a c) = none) (h0 : mayNo c (joinP a c) = 0) (hleft : left = []) :
    Calls Tryz.prog 83 #[walkV oa L.length tc (bs a) lo (c :: left).length lc hops ro rn rc false emp 0, .int .i64 s] w fun r w' => Below w.heap.size w w' ∧ StepRes w' w.heap.size lo oa L.length tc ro rn rc (joinP a c) (.ok none) r := by
  unfold walkV
  obtain ⟨ad, rfl, hca⟩ := hl.cell 0 _ rfl
  rw [add_zero, show encS c = .string (bs c) from rfl] at hca
  obtain ⟨n, hn⟩ : ∃ n, n = left.length := ⟨_, rfl⟩
  obtain ⟨nL, hnL⟩ : ∃ n, n = L.length := ⟨_, rfl⟩
  have hle := hl.le
  have hmx := hl.max
  have hal := hl.lt ad rfl
  rw [List.length_cons, ← hn] at hle ⊢
  have b1 : ((bs c).toList == [46]) = false := eqB_f (by rw [bs_toList]; exact c1)
  have b2 : ((bs c).toList == [46, 46]) = false := eqB_f (by rw [bs_toList]; exact c2)
  have HJ := Lib.hid (fun W => rjoin_any (bs a) (bs c) W (by rw [Lib.size_eq, Lib.size_eq, bs_toList, bs_toList]; omega))
  have hjl : (joinP a c).length ≤ 4294967552 := by
    unfold joinP; split
    · omega
    · simp; omega
  have HA := Lib.hid (fun W (hW : Below w.heap.size w W) => at_any _ L (bs (joinP a c)) W (hE.below hW (Nat.le_refl _)) hlL (fun e he => by have := hb e he; omega) (by rw [Lib.size_eq, bs_toList]; omega))
  rw [bs_toList, atIx_miss hq] at HA
  rw [bs_toList, bs_toList] at HJ
  have hcz : (bs c).size ≤ 1099511627776 := by rw [bs_size]; omega
  have hqz : (bs (joinP a c)).size ≤ 1099511627776 := by rw [bs_size]; omega
  obtain rfl : n = 0 := by rw [hn, hleft]; rfl
  have HM := Lib.hid (fun st lo lc W => missing_last oa lo ro L.length tc 0 lc rn rc st emp (bs c) (bs (joinP a c)) hops 0 s false W hs rfl hcz hqz (by rw [bs_toList, bs_toList]; exact h0))
  clear h0 hcz hqz hleft
  unfold walkV at HM
  rw [← hnL] at HA HM ⊢
  generalize joinP a c = q at *
  have Hn := Lib.hid (show left.length = 0 from hn.symm)
  have HnL := Lib.hid hnL
  clear hE hb hq hs hlL hnL
  rcases tail_cases hl with ⟨hcap, h0, ht⟩ | ⟨hcap, h0, ht⟩
  all_goals
    try subst hcap
    try (rw [← hn] at h0; subst h0)
    clear hl ht; try clear hn; try clear h0
    go_enter Tryz.func83, Tryz.ntmps83
    go_wp2_with (first
      | (go_at_call 118; refine (HJ.out _).mono ?_; rintro e w' ⟨rfl, rfl⟩)
      | (go_at_call 119; refine (HA.out _ (below2 ..)).mono ?_; rintro e w' ⟨rfl, rfl⟩)
      | (go_at_call 120; refine (HM.out _ _ _ _).mono ?_; rintro r w2 ⟨hb2, rfl⟩
         have HB2 := Lib.hid ((hb2.block (w.heap.size + 1) (by simp)).trans (heap_alloc2_new w _ _))
         have HL2 := Lib.hid (below_world2 (hb2.mono (by simp)))
         clear hb2)
      | (refine wpList_store_row rfl _ _ _ rfl (w.heap.size + 1) _ rfl rfl 80 _ HB2.out (by kernel_rfl) rfl (by kernel_rfl) ?_))
    exact bodyPost_ret_by (walk_ret rfl rfl (setRow_at HB2.out) rfl) rfl ⟨below_rowSet HL2.out (by omega) _, _, _, _, _, _, rfl⟩

set_option maxRecDepth 100000 in
set_option maxHeartbeats 1000000 in
theorem step_fullM (L : List Ent) (oa lo ro : Option Addr) (tc lc rn rc : Nat) (a c : List UInt8) (left : List (List UInt8)) (hops : Nat) (s : Int) (w : World) (hs : s = 2 ∨ s = 3 ∧ left ≠ []) (hE : EntsAt w (.slice oa L.length tc) L)
    (hlL : L.length ≤ 1099511627776) (hb : ∀ e ∈ L, e.p.size ≤ 1099511627776) (ha : a.length ≤ 255) (hc : c.length ≤ 4294967296) (hl : LeftA w lo lc (c :: left)) (c1 : c ≠ [46]) (c2 : c ≠ [46, 46]) (hq : lookE L (joinP a c) = none) (h0 : mayNo c (joinP a c) = 0) (hfull : 4096 ≤ L.length) :
    Calls Tryz.prog 83 #[walkV oa L.length tc (bs a) lo (c :: left).length lc hops ro rn rc false emp 0, .int .i64 s] w fun r w' => Below w.heap.size w w' ∧ StepRes w' w.heap.size lo oa L.length tc ro rn rc (joinP a c) (.error 5) r := by
  unfold walkV
  obtain ⟨ad, rfl, hca⟩ := hl.cell 0 _ rfl
  rw [add_zero, show encS c = .string (bs c) from rfl] at hca
  obtain ⟨n, hn⟩ : ∃ n, n = left.length := ⟨_, rfl⟩
  obtain ⟨nL, hnL⟩ : ∃ n, n = L.length := ⟨_, rfl⟩
  have hle := hl.le
  have hmx := hl.max
  have hal := hl.lt ad rfl
  rw [List.length_cons, ← hn] at hle ⊢
  have b1 : ((bs c).toList == [46]) = false := eqB_f (by rw [bs_toList]; exact c1)
  have b2 : ((bs c).toList == [46, 46]) = false := eqB_f (by rw [bs_toList]; exact c2)
  have HJ := Lib.hid (fun W => rjoin_any (bs a) (bs c) W (by rw [Lib.size_eq, Lib.size_eq, bs_toList, bs_toList]; omega))
  have hjl : (joinP a c).length ≤ 4294967552 := by
    unfold joinP; split
    · omega
    · simp; omega
  have HA := Lib.hid (fun W (hW : Below w.heap.size w W) => at_any _ L (bs (joinP a c)) W (hE.below hW (Nat.le_refl _)) hlL (fun e he => by have := hb e he; omega) (by rw [Lib.size_eq, bs_toList]; omega))
  rw [bs_toList, atIx_miss hq] at HA
  rw [bs_toList, bs_toList] at HJ
  have hcz : (bs c).size ≤ 1099511627776 := by rw [bs_size]; omega
  have hqz : (bs (joinP a c)).size ≤ 1099511627776 := by rw [bs_size]; omega
  have hs2 : s = 2 ∨ s = 3 ∧ n ≠ 0 := by
    rcases hs with h | ⟨h, h2⟩
    · exact .inl h
    · exact .inr ⟨h, by have := List.length_pos_iff.2 h2; omega⟩
  have HM := Lib.hid (fun st lo lc W => missing_full oa lo ro L.length tc n lc rn rc st emp (bs c) (bs (joinP a c)) hops 0 s false W hs2 hcz hqz (by rw [bs_toList, bs_toList]; exact h0) hfull)
  clear h0 hcz hqz hs2 hfull
  unfold walkV at HM
  rw [← hnL] at HA HM ⊢
  generalize joinP a c = q at *
  have Hn := Lib.hid (show left.length = n from hn.symm)
  have HnL := Lib.hid hnL
  clear hE hb hq hs hlL hnL
  rcases tail_cases hl with ⟨hcap, h0, ht⟩ | ⟨hcap, h0, ht⟩
  all_goals
    try subst hcap
    try (rw [← hn] at h0; subst h0)
    clear hl ht; try clear hn; try clear h0
    go_enter Tryz.func83, Tryz.ntmps83
    go_wp2_with (first
      | (go_at_call 118; refine (HJ.out _).mono ?_; rintro e w' ⟨rfl, rfl⟩)
      | (go_at_call 119; refine (HA.out _ (below2 ..)).mono ?_; rintro e w' ⟨rfl, rfl⟩)
      | (go_at_call 120; refine (HM.out _ _ _ _).mono ?_; rintro r w2 ⟨hb2, rfl⟩
         have HB2 := Lib.hid ((hb2.block (w.heap.size + 1) (by simp)).trans (heap_alloc2_new w _ _))
         have HL2 := Lib.hid (below_world2 (hb2.mono (by simp)))
         clear hb2)
      | (refine wpList_store_row rfl _ _ _ rfl (w.heap.size + 1) _ rfl rfl 80 _ HB2.out (by kernel_rfl) rfl (by kernel_rfl) ?_))
    exact bodyPost_ret_by (walk_ret rfl rfl (setRow_at HB2.out) rfl) rfl ⟨below_rowSet HL2.out (by omega) _, by decide, _, _, _, _, _, rfl⟩

set_option maxRecDepth 100000 in
set_option maxHeartbeats 1000000 in
theorem step_madeM (L : List Ent) (oa lo ro : Option Addr) (tc lc rn rc : Nat) (a c : List UInt8) (left : List (List UInt8)) (hops : Nat) (s : Int) (w : World) (hs : s = 2 ∨ s = 3 ∧ left ≠ []) (hE : EntsAt w (.slice oa L.length tc) L)
    (hlL : L.length ≤ 1099511627776) (hb : ∀ e ∈ L, e.p.size ≤ 1099511627776) (ha : a.length ≤ 255) (hc : c.length ≤ 4294967296) (hl : LeftA w lo lc (c :: left)) (c1 : c ≠ [46]) (c2 : c ≠ [46, 46]) (hq : lookE L (joinP a c) = none) (h0 : mayNo c (joinP a c) = 0) (hfull : L.length < 4096) :
    Calls Tryz.prog 83 #[walkV oa L.length tc (bs a) lo (c :: left).length lc hops ro rn rc false emp 0, .int .i64 s] w fun r w' => Below w.heap.size w w' ∧ StepMR w' w.heap.size lo oa tc L ro rn rc (joinP a c) (.ok (some (laidL L (dirE (joinP a c)), joinP a c, left, hops))) r := by
  unfold walkV
  obtain ⟨ad, rfl, hca⟩ := hl.cell 0 _ rfl
  rw [add_zero, show encS c = .string (bs c) from rfl] at hca
  obtain ⟨n, hn⟩ : ∃ n, n = left.length := ⟨_, rfl⟩
  obtain ⟨nL, hnL⟩ : ∃ n, n = L.length := ⟨_, rfl⟩
  have hle := hl.le
  have hmx := hl.max
  have hal := hl.lt ad rfl
  rw [List.length_cons, ← hn] at hle ⊢
  have b1 : ((bs c).toList == [46]) = false := eqB_f (by rw [bs_toList]; exact c1)
  have b2 : ((bs c).toList == [46, 46]) = false := eqB_f (by rw [bs_toList]; exact c2)
  have HJ := Lib.hid (fun W => rjoin_any (bs a) (bs c) W (by rw [Lib.size_eq, Lib.size_eq, bs_toList, bs_toList]; omega))
  have hjl : (joinP a c).length ≤ 4294967552 := by
    unfold joinP; split
    · omega
    · simp; omega
  have HA := Lib.hid (fun W (hW : Below w.heap.size w W) => at_any _ L (bs (joinP a c)) W (hE.below hW (Nat.le_refl _)) hlL (fun e he => by have := hb e he; omega) (by rw [Lib.size_eq, bs_toList]; omega))
  rw [bs_toList, atIx_miss hq] at HA
  rw [bs_toList, bs_toList] at HJ
  have hcz : (bs c).size ≤ 1099511627776 := by rw [bs_size]; omega
  have hqz : (bs (joinP a c)).size ≤ 1099511627776 := by rw [bs_size]; omega
  have hs2 : s = 2 ∨ s = 3 ∧ n ≠ 0 := by
    rcases hs with h | ⟨h, h2⟩
    · exact .inl h
    · exact .inr ⟨h, by have := List.length_pos_iff.2 h2; omega⟩
  have hm := fun st lo lc W (hW : Below w.heap.size w W) => missing_made L oa lo ro tc n lc rn rc st emp (bs c) (joinP a c) hops 0 s false W hs2 hcz (by omega) (hE.below hW (Nat.le_refl _)) hb (by rw [bs_toList]; exact h0) hfull hq
  obtain ⟨L2, hL2⟩ : ∃ l, l = laidL L (dirE (joinP a c)) := ⟨_, rfl⟩
  rw [← hL2] at hm ⊢
  obtain ⟨n2, hn2⟩ : ∃ n, n = L2.length := ⟨_, rfl⟩
  rw [← hn2] at hm
  have HM := Lib.hid hm
  have Hn2 := Lib.hid hn2
  clear h0 hcz hqz hs2 hfull hm hL2 hn2
  unfold walkV at HM
  rw [← hnL] at HA HM ⊢
  generalize joinP a c = q at *
  have Hn := Lib.hid (show left.length = n from hn.symm)
  have HnL := Lib.hid hnL
  clear hE hb hq hs hlL hnL
  rcases tail_cases hl with ⟨hcap, h0, ht⟩ | ⟨hcap, h0, ht⟩
  all_goals
    try subst hcap
    try (rw [← hn] at h0; subst h0)
    have Hl := Lib.hid ht
    clear hl ht; try clear hn; try clear h0
    go_enter Tryz.func83, Tryz.ntmps83
    go_wp2_with (first
      | (go_at_call 118; refine (HJ.out _).mono ?_; rintro e w' ⟨rfl, rfl⟩)
      | (go_at_call 119; refine (HA.out _ (below2 ..)).mono ?_; rintro e w' ⟨rfl, rfl⟩)
      | (go_at_call 120; refine (HM.out _ _ _ _ (below2 ..)).mono ?_; rintro r w2 ⟨hb2, oa2, tc2, rfl, he2, hlo2⟩
         have HB2 := Lib.hid ((hb2.block (w.heap.size + 1) (by simp)).trans (heap_alloc2_new w _ _))
         have HL2 := Lib.hid (below_world2 (hb2.mono (by simp)))
         have HE2 := Lib.hid he2
         have Hlo2 := Lib.hid hlo2
         clear hb2 he2 hlo2)
      | (refine wpList_store_row rfl _ _ _ rfl (w.heap.size + 1) _ rfl rfl 80 _ HB2.out (by kernel_rfl) rfl (by kernel_rfl) ?_))
    refine bodyPost_ret_by (walk_ret rfl rfl (setRow_at HB2.out) rfl) rfl ⟨below_rowSet HL2.out (by omega) _, oa2, tc2, _, _, by rw [← Hn2.out, Hn.out]; rfl, Hl.out.below (below_rowSet HL2.out (by omega) _) (Nat.le_refl _), fun b hb => .inr ⟨ad, rfl, by injection hb with hb; subst hb; rfl⟩, ?_, fun b hb _ => .inl (by have := Hlo2.out b hb; simp at this; omega)⟩
    rw [← Hn2.out]
    refine ents_keep HE2.out (by simp [World.setRow]) (fun b n9 c9 hv hL => ?_)
    injection hv with hv _ _
    have := Hlo2.out b hv
    simp at this
    rw [setRow_other _ _ _ _ (by omega)]
/-- a round of a walk that makes -/
theorem stepM_any (mk : Bool) (L : List Ent) (hgood : Good L) (oa lo ro : Option Addr) (tc lc rn rc : Nat) (a c : List UInt8) (left : List (List UInt8)) (hops : Nat) (w : World) (hE : EntsAt w (.slice oa L.length tc) L)
    (hhr : Here L a) (ha : a.length ≤ 255) (hc : c.length ≤ 4294967296 ∧ c ≠ [] ∧ (47 : UInt8) ∉ c) (hl : LeftA w lo lc (c :: left)) (hll : left.length ≤ 1099511627776) (hh : hops ≤ 40) :
    Calls Tryz.prog 83 #[walkV oa L.length tc (bs a) lo (c :: left).length lc hops ro rn rc false emp 0, .int .i64 (sortM mk)] w fun r w' => Below w.heap.size w w' ∧ StepMR w' w.heap.size lo oa tc L ro rn rc (joinP a c) (stepM mk L a c left hops) r := by
  have hlL : L.length ≤ 1099511627776 := by have := hgood.len; omega
  have hsm : ∀ e ∈ L, e.p.size ≤ 1099511627776 := fun e he => by
    have := checkNo_small (itselfNo_check (hgood.it e he))
    show e.path.length ≤ _
    omega
  have hb : ∀ e ∈ L, e.p.size < 4611686018427387904 := fun e he => by have := hsm e he; omega
  have hs23 : sortM mk = 2 ∨ sortM mk = 3 := by unfold sortM; cases mk <;> simp
  have up : ∀ {q : List UInt8} {R : Except Nat (Option (List UInt8 × List (List UInt8) × Nat))}, (Calls Tryz.prog 83 #[walkV oa L.length tc (bs a) lo (c :: left).length lc hops ro rn rc false emp 0, .int .i64 (sortM mk)] w fun r w' => Below w.heap.size w w' ∧ StepRes w' w.heap.size lo oa L.length tc ro rn rc q R r) →
      Calls Tryz.prog 83 #[walkV oa L.length tc (bs a) lo (c :: left).length lc hops ro rn rc false emp 0, .int .i64 (sortM mk)] w fun r w' => Below w.heap.size w w' ∧ StepMR w' w.heap.size lo oa tc L ro rn rc q (upR L R) r :=
    fun h => h.mono fun r w' ⟨h1, h2⟩ => ⟨h1, StepMR.of_res hE h1 h2⟩
  unfold stepM
  by_cases c1 : c = [46]
  · subst c1
    rw [if_pos rfl]
    exact up (step_dot oa lo ro L.length tc lc rn rc a left hops _ w _ hl)
  rw [if_neg c1]
  by_cases c2 : c = [46, 46]
  · subst c2
    rw [if_pos rfl]
    exact up (step_up oa lo ro L.length tc lc rn rc a left hops _ w _ ha hl)
  rw [if_neg c2]
  cases hq : lookE L (joinP a c) with
  | none =>
    simp only []
    by_cases h0 : mayNo c (joinP a c) ≠ 0
    · rw [if_pos h0]
      exact up (step_mayM L oa lo ro tc lc rn rc a c left hops _ w hs23 hE hlL hsm ha hc.1 hl c1 c2 hq h0)
    rw [if_neg h0]
    have h0' : mayNo c (joinP a c) = 0 := by omega
    by_cases h1 : mk = false ∧ left = []
    · rw [if_pos h1]
      exact up (step_lastM L oa lo ro tc lc rn rc a c left hops _ w (by rw [h1.1]; rfl) hE hlL hsm ha hc.1 hl c1 c2 hq h0' h1.2)
    rw [if_neg h1]
    have hs2 : sortM mk = 2 ∨ sortM mk = 3 ∧ left ≠ [] := by
      cases mk with
      | true => exact .inl rfl
      | false => exact .inr ⟨rfl, fun h => h1 ⟨rfl, h⟩⟩
    by_cases h5 : 4096 ≤ L.length
    · rw [if_pos h5]
      exact up (step_fullM L oa lo ro tc lc rn rc a c left hops _ w hs2 hE hlL hsm ha hc.1 hl c1 c2 hq h0' h5)
    · rw [if_neg h5]
      exact step_madeM L oa lo ro tc lc rn rc a c left hops _ w hs2 hE hlL hsm ha hc.1 hl c1 c2 hq h0' (by omega)
  | some e =>
    simp only []
    by_cases k1 : e.k = 1
    · rw [if_pos k1]
      exact up (step_dir L e oa lo ro tc lc rn rc a c left hops _ w hE hlL hb ha hc.1 hl c1 c2 hq k1)
    rw [if_neg k1]
    by_cases k2 : e.k = 2
    · rw [if_pos k2]
      by_cases h3 : mk = true ∨ left ≠ []
      · rw [if_pos h3]
        exact up (step_notdirM L e oa lo ro tc lc rn rc a c left hops _ w hE hlL hb ha hc.1 hl c1 c2 hq k1 k2 (by
          cases mk with
          | true => exact .inl rfl
          | false => exact .inr ⟨rfl, by rcases h3 with h | h; cases h; exact h⟩))
      · rw [if_neg h3]
        have hm : mk = false := by cases mk with | true => exact absurd (.inl rfl) h3 | false => rfl
        exact up (step_fileM L e oa lo ro tc lc rn rc a c left hops _ w hE hlL hb ha hc.1 hl c1 c2 hq k1 k2 (by rw [hm]; rfl) (Classical.not_not.1 fun h => h3 (.inr h)))
    rw [if_neg k2]
    have hl0 := (link_short hgood hq k1 k2).2
    have hl1 := link_size hgood hq k1 k2
    by_cases h4 : hops = 40
    · rw [if_pos h4]
      exact up (step_loopM L e oa lo ro tc lc rn rc a c left hops _ w hE hlL hb ha hc.1 hl c1 c2 hq k1 k2 hs23 hl0 (by omega) hll hh h4)
    · rw [if_neg h4]
      exact up (step_linkM L e oa lo ro tc lc rn rc a c left hops _ w hE hlL hb ha hc.1 hl c1 c2 hq k1 k2 hs23 hl0 (by omega) hll hh h4)
end
section
open Go.RowKit Go.Maps Go.Shelf
open Go.Lib hiding intOf size_eq
/-- what Go answers, where it makes -/
def GoMR (w w' : World) (L0 : List Ent) (oa : Option Addr) (tc : Nat) (R : List Ent × List (List UInt8) × Except Nat (List UInt8)) (r : Ending) : Prop :=
  match R with
  | (_, _, .error n) => n ≠ 0 ∧ r = .returned (walkV oa L0.length tc emp none 0 0 0 none 0 0 false emp (n : Int))
  | (L, _, .ok p) => ∃ oa' tc' st lo ln lc hops ro rn rc, r = .returned (walkV oa' L.length tc' st lo ln lc hops ro rn rc true (bs p) 0) ∧ EntsAt w' (.slice oa' L.length tc') L ∧
      ∀ b, oa' = some b → L ≠ [] → w.heap.size ≤ b.block ∨ ∃ b0, oa = some b0 ∧ L0 ≠ [] ∧ b.block = b0.block
/-- the relation of Go's loop -/
def GoIM (mk : Bool) (L0 : List Ent) (w : World) (D : Nat) (oa0 : Option Addr) (R : List Ent × List (List UInt8) × Except Nat (List UInt8)) (wr : World) : Prop :=
  ∃ L oa tc a left hops md tr lo lc ro rc, GoAt w wr D (walkC oa L.length tc (bs a) lo left.length lc (hops : Nat) ro tr.length rc false emp 0) ro rc tr ∧ LeftOut wr w.heap.size D (Value.slice ro tr.length rc).ownBlock lo lc left ∧
    EntsOut wr w.heap.size D (Value.slice ro tr.length rc).ownBlock (.slice oa L.length tc) L ∧ (∀ b, oa = some b → L ≠ [] → w.heap.size ≤ b.block ∨ ∃ b0, oa0 = some b0 ∧ L0 ≠ [] ∧ b.block = b0.block) ∧ Good L ∧ Here L a ∧
    a.length ≤ 255 ∧ (∀ c ∈ left, c.length ≤ 4294967296 ∧ c ≠ [] ∧ (47 : UInt8) ∉ c) ∧ hops ≤ 40 ∧ tr.length + needF left.length hops ≤ 1099511627776 ∧ makeF mk (needF left.length hops) L a left hops md = R
set_option maxRecDepth 100000 in
set_option maxHeartbeats 2000000 in
theorem go_make_any (mk : Bool) (L : List Ent) (hgood : Good L) (oa : Option Addr) (tc : Nat) (s : ByteArray) (w : World) (hE : EntsAt w (.slice oa L.length tc) L) (hs : s.size ≤ 4294967296) :
    Calls Tryz.prog 41 #[.slice oa L.length tc, .string s, .int .i64 (sortM mk)] w fun r w' => Below w.heap.size w w' ∧ GoMR w w' L oa tc (makeF mk (needF (pieces s.data.toList).length 0) L [] (pieces s.data.toList) 0 []) r := by
  obtain ⟨i0, hi, hz0, hz1, hz2⟩ := info_parts Tryz.infoString
  have Hi := Lib.hid hi
  have Hz0 := Lib.hid hz0
  have Hz1 := Lib.hid hz1
  have Hz2 := Lib.hid hz2
  clear hi hz0 hz1 hz2
  have HP := Lib.hid (fun W => rpieces_any s W (by omega))
  have Hgood := Lib.hid hgood
  have HE := Lib.hid hE
  obtain ⟨nL, hnL⟩ : ∃ n, n = L.length := ⟨_, rfl⟩
  have HnL := Lib.hid hnL
  obtain ⟨so, hso⟩ : ∃ x, x = sortM mk := ⟨_, rfl⟩
  have Hso := Lib.hid hso
  rw [← hnL, ← hso]
  clear hgood hE hnL hso
  go_enter Tryz.func41, Tryz.ntmps41
  go_wp2_with (go_at_call 82; refine (HP.out _).mono ?_; rintro r w1 ⟨v, rfl, htx, hb1⟩; obtain ⟨lo, lc, rfl, hla, hlo⟩ := left_of_texts htx; generalize hn0 : (pieces s.data.toList).length = n0 at *; have Htx := Lib.hid htx; have Hla := Lib.hid hla; have Hlo := Lib.hid hlo; have Hb1 := Lib.hid hb1; have Hn0 := Lib.hid hn0; clear htx hla hlo hb1 hn0)
  have hs1 : w.heap.size + 1 ≤ w1.heap.size := by have := Hb1.out.size; simpa using this
  go_loopw [8] (fun _ wr => GoIM mk L w (w1.heap.size + 1) oa (makeF mk (needF (pieces s.data.toList).length 0) L [] (pieces s.data.toList) 0 []) wr) (fun _ wr => goMeas (w1.heap.size + 1) wr)
  case atStart =>
    have hz1 : w1.heap[w.heap.size]? = some (.cells walkZ 80 (0, 0)) := (Hb1.out.block _ (by simp)).trans (heap_alloc_new w _)
    have hbw : Below w.heap.size w w1 := (((Below.refl w.heap.size w).alloc (Nat.le_refl _) _)).trans (Hb1.out.mono (by simp))
    have hll := pieces_half s.data.toList.length s.data.toList (Nat.le_refl _)
    rw [← Lib.size_eq] at hll
    have hEO : EntsOut ((w1.alloc (.cells #[.string ⟨#[]⟩] 9)).alloc (.cells (walkC oa nL tc (bs []) lo n0 lc (0 : Nat) (some ⟨w1.heap.size, 0, none⟩) 1 1 false emp 0) 80)) w.heap.size (w1.heap.size + 1) (Value.slice (some ⟨w1.heap.size, 0, none⟩) 1 1).ownBlock (.slice oa nL tc) L := by
      have hE2 := HE.out.below (hbw.trans ((below2 w1 (.cells #[.string ⟨#[]⟩] 9) (.cells (walkC oa nL tc (bs []) lo n0 lc (0 : Nat) (some ⟨w1.heap.size, 0, none⟩) 1 1 false emp 0) 80)).mono (by omega))) (Nat.le_refl _)
      rw [← HnL.out] at hE2
      refine ⟨hE2, fun b n c hv hL => ?_⟩
      injection hv with hv _ _
      subst hv
      have := ents_lt (HE.out) hL
      exact ⟨by omega, by omega, fun e => by simp [Value.ownBlock] at e; omega⟩
    refine ⟨L, oa, tc, [], pieces s.data.toList, 0, [], [[]], lo, lc, some ⟨w1.heap.size, 0, none⟩, 1, ⟨?_, ?_, by omega, ?_, ?_⟩, ⟨?_, ?_⟩, ?_, fun b hb hL => .inr ⟨b, hb, hL, rfl⟩, Hgood.out, .inl rfl, by simp, fun c hc => ?_, by omega, ?_, rfl⟩
    · exact (((below2 w1 _ _).block _ (by omega)).trans hz1)
    · rw [← HnL.out, Hn0.out]; exact heap_alloc2_new w1 _ _
    · exact ⟨rfl, .inr ⟨w1.heap.size, 1, #[.string ⟨#[]⟩], rfl, by omega, heap_alloc2_old w1 _ _, by simp, by unfold maxLen; omega, rfl, rfl⟩⟩
    · exact hbw.trans ((below2 w1 _ _).mono (by omega))
    · exact Hla.out.below (below2 w1 _ _) (Nat.le_refl _)
    · intro b hb
      have h1 := Hlo.out b hb
      have h2 := Hla.out.lt b hb
      simp at h1
      refine ⟨by omega, by omega, fun e => ?_⟩
      simp [Value.ownBlock] at e
      omega
    · rw [← HnL.out]; exact hEO
    · have := pieces_long hc
      rw [← Lib.size_eq] at this
      exact ⟨by omega, pieces_mem c hc⟩
    · unfold needF
      simp
      omega
  case round =>
    obtain ⟨Lc, oc, cc, a, left, hops, md, tr, lo', lc', ro, rc, hG, hL, hEO, hOrg, hGd, hHr, ha, hl, hh, hN, hR⟩ := hrel
    obtain ⟨nC, hnC⟩ : ∃ n, n = Lc.length := ⟨_, rfl⟩
    have HnC := Lib.hid hnC
    clear hnC
    have hsz := heap_lt hG.d
    cases left with
    | nil =>
      have HG := Lib.hid hG
      have HR := Lib.hid (hR.symm.trans makeF_nil)
      have HEO := Lib.hid hEO
      have HOrg := Lib.hid hOrg
      have hd := hG.d
      unfold walkC at hd
      rw [← HnC.out] at hd
      have z1 := cell_of_row hd (i := 1) rfl
      have z2 := cell_of_row hd (i := 2) rfl
      have HD := Lib.hid hd
      have HZ := Lib.hid hG.z
      have HN := Lib.hid hN
      clear hG hL hR hd hN hl hEO hOrg hGd hHr
      obtain ⟨m, hm⟩ : ∃ m, m = tr.length := ⟨_, rfl⟩
      rw [← hm] at HD
      have Hm := Lib.hid hm
      clear hm
      go_wp2_with (first
        | (refine wpList_load_row rfl _ _ rfl (w1.heap.size + 1) rfl 80 _ (0, 0) _ HD.out Tryz.underlying80 rfl (by kernel_rfl) ?_)
        | (go_at_call 84; refine (ended_any _ _ _ _ _ _ _ _ _ _ _ _ _ _ _ _).mono ?_; rintro r w2 ⟨rfl, hb2⟩
           have HZ2 := Lib.hid ((hb2.block _ (heap_lt HZ.out)).trans HZ.out)
           have HE2 := Lib.hid (HEO.out.ea.below hb2 (Nat.le_refl _))
           have HB2 := Lib.hid (HG.out.bel.trans (hb2.mono HG.out.bel.size))
           clear hb2
           unfold walkV)
        | (refine wpList_store_row rfl _ _ _ rfl w.heap.size _ rfl rfl 80 _ HZ2.out (by kernel_rfl) rfl (by kernel_rfl) ?_))
      refine bodyPost_ret_by (walk_ret rfl rfl (setRow_at HZ2.out) rfl) rfl ⟨below_rowSet HB2.out (Nat.le_refl _) _, ?_⟩
      rw [HR.out]
      exact ⟨oc, cc, _, _, _, _, _, _, _, _, by rw [← HnC.out]; rfl, ents_keep HE2.out (by simp [World.setRow]) (fun b n c hv hL => setRow_other _ _ _ _ (HEO.out.out b n c hv hL).1), HOrg.out⟩
    | cons c left =>
      have hc := hl c (List.mem_cons_self ..)
      have hl2 : ∀ x ∈ left, x.length ≤ 4294967296 ∧ x ≠ [] ∧ (47 : UInt8) ∉ x := fun x hx => hl x (List.mem_cons_of_mem _ hx)
      obtain ⟨md2, hR2⟩ := stepM_run hGd (mk := mk) (a := a) (c := c) (left := left) (md := md) hh hc.2 hHr
      rw [needF_cons] at hN
      have hnd := needF_ge left.length hops
      have HS := Lib.hid (stepM_any mk Lc hGd oc lo' ro cc lc' tr.length rc a c left hops wr hEO.ea hHr ha hc hL.la (by omega) hh)
      have hmeas := goMeas_eq hG
      rw [needF_cons] at hmeas
      have hd := hG.d
      unfold walkC at hd
      rw [← HnC.out, ← Hso.out] at HS
      rw [← HnC.out] at hd
      unfold walkV at HS
      obtain ⟨n, hn⟩ : ∃ n, n = (c :: left).length := ⟨_, rfl⟩
      obtain ⟨m, hm⟩ : ∃ m, m = tr.length := ⟨_, rfl⟩
      rw [← hn, ← hm] at HS hd
      have hn0 : 0 < n := by rw [hn]; simp
      have z2 := cell_of_row hd (i := 2) rfl
      have HD := Lib.hid hd
      have HG := Lib.hid hG
      have HL := Lib.hid hL
      have HEO := Lib.hid hEO
      have HOrg := Lib.hid hOrg
      have HGd := Lib.hid hGd
      have HHr := Lib.hid hHr
      have Hc := Lib.hid hc
      have Hm := Lib.hid hm
      have HN := Lib.hid hN
      have Hl2 := Lib.hid hl2
      have HR := Lib.hid (hR.symm.trans hR2)
      have Hmeas := Lib.hid hmeas
      have Hnd := Lib.hid hnd
      have Ha := Lib.hid ha
      have Hh := Lib.hid hh
      clear hG hL hR hR2 hd hN hl hl2 hc hm hn hmeas hnd ha hh hEO hOrg hGd hHr
      cases hst : stepM mk Lc a c left hops with
      | error N =>
        rw [hst] at HS HR
        unfold StepMR at HS
        dsimp only at HS
        clear hst
        go_wp2_with (first
          | (refine wpList_load_row rfl _ _ rfl (w1.heap.size + 1) rfl 80 _ (0, 0) _ HD.out Tryz.underlying80 rfl (by kernel_rfl) ?_)
          | (go_at_call 83; refine HS.out.mono ?_; rintro r w2 ⟨hb2, hN0, oe2, tn2, te2, st2, lo2, ln2, lc2, hops2, rfl⟩
             have HD2 := Lib.hid (HG.out.step hb2 #[]).1
             have hg3 := (HG.out.step hb2 (walkC oe2 tn2 te2 st2 lo2 ln2 lc2 hops2 ro m rc false emp (N : Int))).2
             obtain ⟨w3, hw3⟩ : ∃ x, x = w2.setRow (w1.heap.size + 1) (walkC oe2 tn2 te2 st2 lo2 ln2 lc2 hops2 ro m rc false emp (N : Int)) := ⟨_, rfl⟩
             rw [← hw3] at hg3
             have hd3 := hg3.d
             have HG3 := Lib.hid hg3
             have HZ3 := Lib.hid hg3.z
             have HT3 := Lib.hid (show Texts w3 (w.heap.size + 1) (.slice ro m rc) tr by have := hg3.tx; rw [← Hm.out] at this; exact this)
             have hs3 : w1.heap.size + 1 < w3.heap.size := heap_lt hg3.d
             unfold walkC at hw3 hd3
             have HW3 := Lib.hid hw3
             have b7 : ((N : Int) == 0) = false := by simp; omega
             have z7 := cell_of_row hd3 (i := 7) rfl
             clear hb2 hg3 hw3 hd3 HS
             unfold walkV)
          | (refine wpList_store_row rfl _ _ _ rfl (w1.heap.size + 1) _ rfl rfl 80 _ HD2.out (by kernel_rfl) rfl (by kernel_rfl) ?_; rw [← HW3.out])
          | (refine wpList_store_row rfl _ _ _ rfl w.heap.size _ rfl rfl 80 _ HZ3.out (by kernel_rfl) rfl (by kernel_rfl) ?_))
        refine bodyPost_ret_by (walk_ret rfl rfl (setRow_at HZ3.out) rfl) rfl ⟨below_rowSet HG3.out.bel (Nat.le_refl _) _, ?_⟩
        rw [HR.out]
        exact ⟨hN0, by rw [← HnL.out]; rfl⟩
      | ok x => cases x with
        | none =>
          rw [hst] at HS HR
          unfold StepMR at HS
          dsimp only at HS
          rw [← HnC.out] at HS
          clear hst
          go_wp2_with (first
          | (refine wpList_load_row rfl _ _ rfl (w1.heap.size + 1) rfl 80 _ (0, 0) _ HD.out Tryz.underlying80 rfl (by kernel_rfl) ?_)
          | (go_at_call 83; refine HS.out.mono ?_; rintro r w2 ⟨hb2, st2, lo2, ln2, lc2, hops2, rfl⟩
             have HD2 := Lib.hid (HG.out.step hb2 #[]).1
             have hg3 := (HG.out.step hb2 (walkC oc nC cc st2 lo2 ln2 lc2 hops2 ro m rc true (bs (joinP a c)) 0)).2
             obtain ⟨w3, hw3⟩ : ∃ x, x = w2.setRow (w1.heap.size + 1) (walkC oc nC cc st2 lo2 ln2 lc2 hops2 ro m rc true (bs (joinP a c)) 0) := ⟨_, rfl⟩
             rw [← hw3] at hg3
             have hd3 := hg3.d
             have HG3 := Lib.hid hg3
             have HZ3 := Lib.hid hg3.z
             have HEO3 := Lib.hid (show EntsOut w3 w.heap.size (w1.heap.size + 1) (Value.slice ro m rc).ownBlock (.slice oc nC cc) Lc from by
               rw [Hm.out, hw3]
               have hEO := HEO.out
               rw [← HnC.out] at hEO
               exact hEO.step HG.out (hEO.ea.below hb2 (Nat.le_refl _)) (fun b n c hv hL => .inr ⟨b, n, c, hv, hL, rfl⟩) _)
             have HT3 := Lib.hid (show Texts w3 (w.heap.size + 1) (.slice ro m rc) tr by have := hg3.tx; rw [← Hm.out] at this; exact this)
             have hs3 : w1.heap.size + 1 < w3.heap.size := heap_lt hg3.d
             unfold walkC at hw3 hd3
             have HW3 := Lib.hid hw3
             have z1 := cell_of_row hd3 (i := 1) rfl
             have z4 := cell_of_row hd3 (i := 4) rfl
             have z5 := cell_of_row hd3 (i := 5) rfl
             have z6 := cell_of_row hd3 (i := 6) rfl
             have z7 := cell_of_row hd3 (i := 7) rfl
             clear hb2 hg3 hw3 hd3 HS
             unfold walkV)
          | (refine wpList_store_row rfl _ _ _ rfl (w1.heap.size + 1) _ rfl rfl 80 _ HD2.out (by kernel_rfl) rfl (by kernel_rfl) ?_; rw [← HW3.out])
          | (at_builtin; refine wpList_append_own_at _ rfl _ _ 70 rfl (w.heap.size + 1) 9 i0 (.string ⟨#[]⟩) 1 16 Tryz.underlying70 Hi.out Hz0.out Hz1.out Hz2.out rfl (by decide) _ _ _ rfl (HT3.out.alloc _) ⟨w3.heap.size, 0, none⟩ 1 1 [.string (bs (joinP a c))] rfl rfl (cell_one_new _ _ _) (by simp [Value.oneCell']) (by have := HN.out; unfold maxLen; omega) (by have := HN.out; omega) (by simp; omega) ?_
             intro v' w4 hown hgr _ hat
             rw [Hm.out] at hgr hat
             obtain ⟨ro', rc', rfl, hd4, hlft, hg5⟩ := HG3.out.add (x := (joinP a c)) hown hgr hat
             have HEO5 := Lib.hid (EntsOut.add (x := joinP a c) HG3.out (by rw [← Hm.out] at hgr ⊢; exact hgr) hat (by rw [← Hm.out]; exact HEO3.out))
             rw [← Hm.out] at hlft hg5 HEO5 ⊢
             unfold walkC at hd4
             have y4 := cell_of_row hd4 (i := 4) rfl
             have f4 := frozen_of_row hd4 (i := 4)
             have y5 := cell_of_row hd4 (i := 5) rfl
             have hd5 := hg5.d
             rw [show (walkC oc nC cc st2 lo2 ln2 lc2 hops2 ro m rc true (bs (joinP a c)) 0).setIfInBounds 4 (.slice ro' (m + 1) rc') = walkC oc nC cc st2 lo2 ln2 lc2 hops2 ro' (m + 1) rc' true (bs (joinP a c)) 0 from rfl] at hd5
             unfold walkC at hd5
             have u5 := cell_of_row hd5 (i := 5) rfl
             have HD5 := Lib.hid hd5
             have HZ5 := Lib.hid hg5.z
             have HG5 := Lib.hid hg5
             have HL5 := Lib.hid hlft
             clear hown hgr hat hd4 hd5 hg5 hlft HG3 HD2 HW3)
          | (refine wpList_load_row rfl _ _ rfl (w1.heap.size + 1) rfl 80 _ (0, 0) _ HD5.out Tryz.underlying80 rfl (by kernel_rfl) ?_)
          | (refine wpList_store_row rfl _ _ _ rfl w.heap.size _ rfl rfl 80 _ HZ5.out (by kernel_rfl) rfl (by kernel_rfl) ?_))
          refine bodyPost_ret_by (walk_ret rfl rfl (setRow_at HZ5.out) rfl) rfl ⟨below_rowSet HG5.out.bel (Nat.le_refl _) _, ?_⟩
          rw [HR.out]
          exact ⟨oc, cc, _, _, _, _, _, _, _, _, by rw [← HnC.out]; rfl, by
            have h5 := HEO5.out
            rw [← HnC.out]
            exact ents_keep h5.ea (by simp [World.setRow]) (fun b n c hv hL => setRow_other _ _ _ _ (h5.out b n c hv hL).1), HOrg.out⟩
        | some x =>
          obtain ⟨L2, a', left', hops'⟩ := x
          obtain ⟨nD, hnD⟩ : ∃ n, n = L2.length := ⟨_, rfl⟩
          have HnD := Lib.hid hnD
          clear hnD
          rw [hst] at HS HR
          have Hst := Lib.hid hst
          clear hst
          unfold StepMR at HS
          dsimp only at HS
          rw [← HnD.out] at HS
          go_wp2_with (first
          | (refine wpList_load_row rfl _ _ rfl (w1.heap.size + 1) rfl 80 _ (0, 0) _ HD.out Tryz.underlying80 rfl (by kernel_rfl) ?_)
          | (go_at_call 83; refine HS.out.mono ?_; rintro r w2 ⟨hb2, o2, c2, lo2, lc2, rfl, hla2, hcl, hea2, hoc2⟩
             have HD2 := Lib.hid (HG.out.step hb2 #[]).1
             have hg3 := (HG.out.step hb2 (walkC o2 nD c2 (bs a') lo2 left'.length lc2 (hops' : Nat) ro m rc false emp 0)).2
             obtain ⟨w3, hw3⟩ : ∃ x, x = w2.setRow (w1.heap.size + 1) (walkC o2 nD c2 (bs a') lo2 left'.length lc2 (hops' : Nat) ro m rc false emp 0) := ⟨_, rfl⟩
             rw [← hw3] at hg3
             have hd3 := hg3.d
             have HG3 := Lib.hid hg3
             have HZ3 := Lib.hid hg3.z
             have HEO3 := Lib.hid (show EntsOut w3 w.heap.size (w1.heap.size + 1) (Value.slice ro m rc).ownBlock (.slice o2 nD c2) L2 from by
               rw [Hm.out, hw3]
               exact HEO.out.step HG.out hea2 (fun b n c hv hL => by
                 injection hv with hv _ _
                 rcases hoc2 b hv hL with h | ⟨b0, h1, h2, h3⟩
                 · exact .inl h
                 · exact .inr ⟨b0, Lc.length, cc, by rw [h1], h2, h3⟩) _)
             have HOrg2 := Lib.hid (show ∀ b, o2 = some b → L2 ≠ [] → w.heap.size ≤ b.block ∨ ∃ b0, oa = some b0 ∧ L ≠ [] ∧ b.block = b0.block from fun b hv hL => by
               rcases hoc2 b hv hL with h | ⟨b0, h1, h2, h3⟩
               · exact .inl (Nat.le_trans HG.out.bel.size h)
               · rcases HOrg.out b0 h1 h2 with h | ⟨b1, q1, q2, q3⟩
                 · exact .inl (by omega)
                 · exact .inr ⟨b1, q1, q2, h3.trans q3⟩)
             have HT3 := Lib.hid (show Texts w3 (w.heap.size + 1) (.slice ro m rc) tr by have := hg3.tx; rw [← Hm.out] at this; exact this)
             have hs3 : w1.heap.size + 1 < w3.heap.size := heap_lt hg3.d
             unfold walkC at hw3 hd3
             have HW3 := Lib.hid hw3
             have HLS := Lib.hid (show LeftOut w3 w.heap.size (w1.heap.size + 1) (Value.slice ro m rc).ownBlock lo2 lc2 left' from by rw [Hm.out, hw3]; exact HL.out.step HG.out hla2 hcl _)
             have z1 := cell_of_row hd3 (i := 1) rfl
             have z4 := cell_of_row hd3 (i := 4) rfl
             have z5 := cell_of_row hd3 (i := 5) rfl
             have z6 := cell_of_row hd3 (i := 6) rfl
             have z7 := cell_of_row hd3 (i := 7) rfl
             clear hb2 hg3 hw3 hd3 HS hla2 hcl hea2 hoc2
             unfold walkV)
          | (refine wpList_store_row rfl _ _ _ rfl (w1.heap.size + 1) _ rfl rfl 80 _ HD2.out (by kernel_rfl) rfl (by kernel_rfl) ?_; rw [← HW3.out])
          | (at_builtin; refine wpList_append_own_at _ rfl _ _ 70 rfl (w.heap.size + 1) 9 i0 (.string ⟨#[]⟩) 1 16 Tryz.underlying70 Hi.out Hz0.out Hz1.out Hz2.out rfl (by decide) _ _ _ rfl (HT3.out.alloc _) ⟨w3.heap.size, 0, none⟩ 1 1 [.string (bs a')] rfl rfl (cell_one_new _ _ _) (by simp [Value.oneCell']) (by have := HN.out; unfold maxLen; omega) (by have := HN.out; omega) (by simp; omega) ?_
             intro v' w4 hown hgr _ hat
             rw [Hm.out] at hgr hat
             obtain ⟨ro', rc', rfl, hd4, hlft, hg5⟩ := HG3.out.add (x := a') hown hgr hat
             have HEO5 := Lib.hid (EntsOut.add (x := a') HG3.out (by rw [← Hm.out] at hgr ⊢; exact hgr) hat (by rw [← Hm.out]; exact HEO3.out))
             rw [← Hm.out] at hlft hg5 HEO5 ⊢
             unfold walkC at hd4
             have y4 := cell_of_row hd4 (i := 4) rfl
             have f4 := frozen_of_row hd4 (i := 4)
             have y5 := cell_of_row hd4 (i := 5) rfl
             have hd5 := hg5.d
             rw [show (walkC o2 nD c2 (bs a') lo2 left'.length lc2 (hops' : Nat) ro m rc false emp 0).setIfInBounds 4 (.slice ro' (m + 1) rc') = walkC o2 nD c2 (bs a') lo2 left'.length lc2 (hops' : Nat) ro' (m + 1) rc' false emp 0 from rfl] at hd5
             unfold walkC at hd5
             have u5 := cell_of_row hd5 (i := 5) rfl
             have HD5 := Lib.hid hd5
             have HZ5 := Lib.hid hg5.z
             have HG5 := Lib.hid hg5
             have HL5 := Lib.hid hlft
             clear hown hgr hat hd4 hd5 hg5 hlft HG3 HD2 HW3)
          | (refine wpList_load_row rfl _ _ rfl (w1.heap.size + 1) rfl 80 _ (0, 0) _ HD5.out Tryz.underlying80 rfl (by kernel_rfl) ?_)
          | (refine wpList_store_row rfl _ _ _ rfl w.heap.size _ rfl rfl 80 _ HZ5.out (by kernel_rfl) rfl (by kernel_rfl) ?_))

          have hg6 : GoAt w (w4.setCell ⟨w1.heap.size + 1, 4, none⟩ (.slice ro' (m + 1) rc')) (w1.heap.size + 1) (walkC o2 nD c2 (bs a') lo2 left'.length lc2 (hops' : Nat) ro' (tr ++ [a']).length rc' false emp 0) ro' rc' (tr ++ [a']) := by
            have := HG5.out
            rw [List.length_append, List.length_singleton, ← Hm.out]
            exact this
          have HG6 := Lib.hid hg6
          have Hon := Lib.hid (stepM_on HGd.out Hh.out Hc.out.2 HHr.out Ha.out (N := 4294967296) (by omega) Hl2.out Hst.out)
          clear hg6
          go_roundw
          case rel =>
            obtain ⟨g1, g2, h1, h2, h3, h4⟩ := Hon.out
            have h5 := HEO5.out
            refine ⟨L2, o2, c2, a', left', hops', md2, tr ++ [a'], lo2, lc2, ro', rc', by rw [← HnD.out]; exact HG6.out, HL5.out _ _ _ HLS.out, by rw [← HnD.out]; exact h5, HOrg2.out, g1, g2, h2, h3, h1, ?_, HR.out.symm⟩
            have := HN.out
            rw [List.length_append, List.length_singleton]
            omega
          case measure =>
            have h4 := Hon.out.2.2.2.2.2
            have := goMeas_eq HG6.out
            have := Hmeas.out
            omega
end
end Go.Proofs.YtdkodedocklmdaaGreatDoor
