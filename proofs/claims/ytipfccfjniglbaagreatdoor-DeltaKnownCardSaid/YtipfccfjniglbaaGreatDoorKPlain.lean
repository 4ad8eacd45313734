/- The law DeltaKnown: the crowds, plain. -/
import Derived.Test.YtipfccfjniglbaaGreatDoorKCrowds
set_option linter.unusedSimpArgs false
set_option linter.unusedVariables false
namespace Go.Proofs.YtipfccfjniglbaaGreatDoor
def fileE (p d : ByteArray) : Ent := ⟨p, 2, 420, d, ⟨#[]⟩⟩
def eA : Ent := fileE ⟨#[97]⟩ ⟨#[]⟩
def p7 : ByteArray := ⟨#[102, 48, 48, 48, 55]⟩
theorem numE_len (h : UInt8) (i : Nat) : (numE h i).path.length = 5 := rfl
theorem numE_d (h : UInt8) (i : Nat) : (numE h i).d.size = 0 := rfl
theorem below_short {p q : List UInt8} (hp : p ≠ []) (h : q.length ≤ p.length) : belowP p q = false := by
  cases hb : belowP p q with
  | false => rfl
  | true =>
    obtain ⟨t, e⟩ := (below_pre hp).1 hb
    rw [e] at h
    simp at h
    omega
theorem without_one : ∀ (l : List Ent) (p : List UInt8), Inc l → (∀ y ∈ l, belowP p y.path = false) → (∃ x ∈ l, x.path = p) → (withoutL l p).length + 1 = l.length
  | [], p, _, _, ⟨x, hx, _⟩ => by cases hx
  | a :: r, p, hi, hb, ⟨x, hx, hp⟩ => by
    obtain ⟨h1, h2⟩ := List.pairwise_cons.1 hi
    unfold withoutL
    by_cases ha : a.path = p
    · rw [List.filter_cons_of_neg (by rw [keepE_false.2 (.inl ha)]; decide)]
      rw [List.filter_eq_self.2 fun y hy => by
        cases hk : keepE p y with
        | true => rfl
        | false =>
          rcases keepE_false.1 hk with e | e
          · have := h1 y hy
            rw [ha, e] at this
            exact absurd this (compareP_irrefl _)
          · rw [hb y (List.mem_cons_of_mem _ hy)] at e
            cases e]
      rfl
    · rw [List.filter_cons_of_pos (by
        cases hk : keepE p a with
        | true => rfl
        | false =>
          rcases keepE_false.1 hk with e | e
          · exact absurd e ha
          · rw [hb a (List.mem_cons_self ..)] at e
            cases e)]
      rcases List.mem_cons.1 hx with e | e
      · subst e; exact absurd hp ha
      · have := without_one r p h2 (fun y hy => hb y (List.mem_cons_of_mem _ hy)) ⟨x, e, hp⟩
        unfold withoutL at this
        rw [List.length_cons, List.length_cons, this]
theorem bytes_zero : ∀ (l : List Ent), (∀ x ∈ l, x.d.size = 0) → bytesE l = 0
  | [], _ => rfl
  | a :: r, h => by rw [bytesE_cons, h a (List.mem_cons_self ..), bytes_zero r (fun x hx => h x (List.mem_cons_of_mem _ hx))]
theorem eA_ok : itselfNo eA = 0 := by kernel_rfl
theorem eA_no : lookE (crowdE 102 4096) eA.path = none := lookE_not fun x hx e => by
  obtain ⟨i, _, rfl⟩ := crowd_mem hx
  have := congrArg List.length e
  rw [numE_len] at this
  cases this
theorem lay_new {L : List Ent} {e : Ent} (h1 : itselfNo e = 0) (h2 : upNo L e.path = 0) (h3 : lookE L e.path = none) : doneL L (layOf e) = .ok (laidL L e) := by
  unfold doneL
  rw [if_neg (show ¬ (layOf e).g = true from fun h => by cases h)]
  show (if e.path ≠ e.path then _ else if itselfNo e ≠ 0 then _ else if upNo L e.path ≠ 0 then _ else match lookE L e.path with | some x => _ | none => _) = _
  rw [if_neg (by simp), h1, if_neg (by decide), h2, if_neg (by decide), h3]
  rfl
theorem up_eA (L : List Ent) : upNo L eA.path = 0 := by
  unfold upNo
  rw [if_pos (by kernel_rfl)]
theorem crowd_no' {F : List Ent} (hc : checkL F = (0, 0)) (hl : F.length = 4096) (hn : lookE F eA.path = none) : applyL F [layOf eA] = .error (5, 1, 1) := by
  unfold applyL
  rw [hc, if_neg (by decide), doL_cons (lay_new eA_ok (up_eA F) hn)]
  show (if 4096 < (laidL F eA).length ∨ _ then _ else _) = _
  rw [if_pos (.inl (by rw [(laid_len_new hn).1, hl]; decide))]
  rfl
theorem crowd_no : applyL (crowdE 102 4096) [layOf eA] = .error (5, 1, 1) := crowd_no' good_f.check (crowdE_len _ _) eA_no
theorem num_ne (h : UInt8) (i : Nat) : (numE h i).path ≠ [] := by intro e; have := congrArg List.length e; rw [numE_len] at this; cases this
theorem crowd_yes' {F : List Ent} (hg : Good F) (hl : F.length = 4096) (hn : lookE F eA.path = none) (h7 : numE 102 7 ∈ F) (hs : ∀ x ∈ F, x.path.length ≤ 5 ∧ x.d.size = 0) : ∃ L, L.length = 4096 ∧ applyL F [layOf eA, ⟨p7, true, entZ⟩] = .ok L := by
  have hi : Inc (laidL F eA) := inc_laid hg.inc
  have hne : (numE 102 7).path ≠ eA.path := fun e => by have := congrArg List.length e; rw [numE_len] at this; cases this
  have hm : numE 102 7 ∈ laidL F eA := (mem_laid hg.inc).2 (.inr ⟨h7, hne⟩)
  have hp : p7.data.toList = (numE 102 7).path := by kernel_rfl
  have hsz : ∀ x ∈ laidL F eA, x.path.length ≤ 5 ∧ x.d.size = 0 := fun x hx => by
    rcases (mem_laid hg.inc).1 hx with rfl | ⟨h3, _⟩
    · exact ⟨by decide, rfl⟩
    · exact hs x h3
  have hw := without_one _ (numE 102 7).path hi (fun y hy => below_short (num_ne _ _) (by rw [numE_len]; exact (hsz y hy).1)) ⟨_, hm, rfl⟩
  rw [(laid_len_new hn).1, hl] at hw
  obtain ⟨p, hpp⟩ : ∃ p, p = (numE 102 7).path := ⟨_, rfl⟩
  have hpn : p ≠ [] := by rw [hpp]; exact num_ne _ _
  have hlk : lookE (laidL F eA) p = some (numE 102 7) := by rw [hpp]; exact lookE_mem hi hm
  rw [← hpp] at hp hw
  clear hpp
  generalize hR : laidL F eA = R at *
  refine ⟨withoutL R p, by omega, ?_⟩
  unfold applyL
  rw [hg.check, if_neg (by decide), doL_cons (lay_new eA_ok (up_eA F) hn), hR]
  have hd : doneL R ⟨p7, true, entZ⟩ = .ok (withoutL R p) := by
    unfold doneL
    rw [if_pos rfl]
    show (if p7.data.toList = [] then _ else if lookE R p7.data.toList = none then _ else Except.ok (withoutL R p7.data.toList)) = _
    rw [hp, if_neg hpn, hlk, if_neg (by simp)]
  rw [doL_cons hd]
  have hb : bytesE (withoutL R p) = 0 := bytes_zero _ fun x hx => (hsz x (List.mem_filter.1 hx).1).2
  show (if 4096 < (withoutL R p).length ∨ 16777216 < bytesE (withoutL R p) then _ else _) = _
  rw [hb, if_neg (by omega)]
theorem crowd_yes : ∃ L, L.length = 4096 ∧ applyL (crowdE 102 4096) [layOf eA, ⟨p7, true, entZ⟩] = .ok L :=
  crowd_yes' good_f (crowdE_len _ _) eA_no (List.mem_map.2 ⟨7, List.mem_range.2 (by decide), rfl⟩) fun x hx => by
    obtain ⟨i, _, rfl⟩ := crowd_mem hx
    exact ⟨Nat.le_of_eq (numE_len _ _), rfl⟩
theorem len_gone : ∀ (f : Nat) (a : List Ent) (top : Option (List UInt8)), a.length ≤ f → (∀ x ∈ a, hid top x.path = false) → (∀ x ∈ a, ∀ z ∈ a, belowP x.path z.path = false) → (chgF f a [] top).length = a.length
  | 0, [], top, hf, _, _ => by unfold chgF; rfl
  | 0, x :: a, top, hf, _, _ => by simp at hf
  | f + 1, [], top, hf, _, _ => by unfold chgF; rfl
  | f + 1, x :: a, top, hf, ht, hb => by
    unfold chgF
    rw [if_neg (by rw [ht x (List.mem_cons_self ..)]; decide), List.length_cons, List.length_cons,
      len_gone f a (some x.path) (by simp at hf; omega) (fun z hz => show belowP x.path z.path = false from hb x (List.mem_cons_self ..) z (List.mem_cons_of_mem _ hz)) (fun z hz y hy => hb z (List.mem_cons_of_mem _ hz) y (List.mem_cons_of_mem _ hy))]
theorem len_both : ∀ (f : Nat) (a b : List Ent), a.length + b.length ≤ f → (∀ x ∈ a, ∀ y ∈ b, compareP y.path x.path < 0) → (∀ x ∈ a, ∀ z ∈ a, belowP x.path z.path = false) → (chgF f a b none).length = a.length + b.length
  | 0, a, b, hf, _, _ => by
    obtain rfl : a = [] := List.eq_nil_of_length_eq_zero (by omega)
    obtain rfl : b = [] := List.eq_nil_of_length_eq_zero (by omega)
    unfold chgF; rfl
  | f + 1, a, [], hf, _, hb => by
    rw [len_gone (f + 1) a none (by simp at hf; omega) (fun _ _ => rfl) hb]
    rfl
  | f + 1, [], y :: b, hf, h, hb => by
    unfold chgF
    rw [List.length_cons, len_both f [] b (by simp at hf ⊢; omega) (fun x hx => by cases hx) hb]
    simp
  | f + 1, x :: a, y :: b, hf, h, hb => by
    have hc := h x (List.mem_cons_self ..) y (List.mem_cons_self ..)
    have hfl := compareP_flip x.path y.path
    unfold chgF
    rw [if_neg (by omega), if_pos (by omega), List.length_cons, len_both f (x :: a) b (by simp at hf ⊢; omega) (fun z hz w hw => h z hz w (List.mem_cons_of_mem _ hw)) hb]
    simp
    omega
theorem num_le {h : UInt8} (g : Good (crowdE h 4096)) {i j : Nat} (hij : i ≤ j) (hj : j < 4096) : compareP (numE h i).path (numE h j).path ≤ 0 := by
  rcases Nat.lt_or_ge i j with hl | hl
  · have := List.pairwise_iff_getElem.1 g.inc i j (by rw [crowdE_len]; omega) (by rw [crowdE_len]; omega) hl
    simp only [crowdE, List.getElem_map, List.getElem_range] at this
    omega
  · obtain rfl : i = j := by omega
    exact Int.le_of_eq (compareP_zero.2 rfl)
theorem cmp_le_lt {a b c : List UInt8} (h : compareP a b ≤ 0) (k : compareP b c < 0) : compareP a c < 0 := by
  rcases Int.lt_or_eq_of_le h with h | h
  · exact compareP_trans h k
  · rw [compareP_zero.1 h]; exact k
theorem cmp_lt_le {a b c : List UInt8} (h : compareP a b < 0) (k : compareP b c ≤ 0) : compareP a c < 0 := by
  rcases Int.lt_or_eq_of_le k with k | k
  · exact compareP_trans h k
  · rw [← compareP_zero.1 k]; exact h
theorem af_mid : compareP (numE 97 4095).path (numE 102 0).path < 0 := by decide +kernel
theorem crowds_len : (chgL (crowdE 102 4096) (crowdE 97 4096)).length = 8192 := by
  unfold chgL
  rw [len_both _ _ _ (Nat.le_refl _) (fun x hx y hy => by
    obtain ⟨i, hi, rfl⟩ := crowd_mem hx
    obtain ⟨j, hj, rfl⟩ := crowd_mem hy
    exact cmp_lt_le (cmp_le_lt (num_le good_a (show j ≤ 4095 by omega) (by decide)) af_mid) (num_le good_f (Nat.zero_le i) hi)) (fun x hx z hz => by
    obtain ⟨i, hi, rfl⟩ := crowd_mem hx
    obtain ⟨j, hj, rfl⟩ := crowd_mem hz
    exact below_short (by intro e; have := congrArg List.length e; rw [numE_len] at this; cases this) (Nat.le_refl _)), crowdE_len, crowdE_len]
theorem crowds_yes : applyL (crowdE 102 4096) (chgL (crowdE 102 4096) (crowdE 97 4096)) = .ok (crowdE 97 4096) := applyL_diff (by rw [good_f.check]) good_f good_a
/- sixteen files at their limit -/
def bigE (s : ByteArray) (i : Nat) : Ent := ⟨(numE 102 i).p, 2, 420, s, ⟨#[]⟩⟩
def bigL (s : ByteArray) (n : Nat) : List Ent := (List.range n).map (bigE s)
def restE (s : ByteArray) : List Ent := (List.range 15).map (fun i => bigE s (i + 1))
def eG : Ent := ⟨⟨#[103]⟩, 2, 420, ⟨#[49]⟩, ⟨#[]⟩⟩
def bigX (s t : ByteArray) : List Ent := bigE t 0 :: (restE s ++ [eG])
theorem bigL_len (s : ByteArray) (n : Nat) : (bigL s n).length = n := by simp [bigL]
theorem bigL_succ (s : ByteArray) (n : Nat) : bigL s (n + 1) = bigL s n ++ [bigE s n] := by simp [bigL, List.range_succ]
theorem bigL_16 (s : ByteArray) : bigL s 16 = bigE s 0 :: restE s := rfl
def ps16 : List (List UInt8) := (List.range 16).map (fun i => (numE 102 i).path)
def pathOk (p : List UInt8) : Bool := checkNo p == 0 && parent p == []
theorem ps_ok : (ps16 ++ [eG.path]).all pathOk = true := by decide +kernel
theorem ps_inc : (ps16 ++ [eG.path]).Pairwise (fun a b => compareP a b < 0) := by decide +kernel
theorem good_files {L : List Ent} {ps : List (List UInt8)} (hp : L.map Ent.path = ps) (hk : ∀ e ∈ L, e.k = 2 ∧ e.m = 420 ∧ e.l = ⟨#[]⟩ ∧ e.d.size ≤ 1048576) (h1 : ps.all pathOk = true) (h2 : ps.Pairwise (fun a b => compareP a b < 0)) (hl : L.length ≤ 4096) (hb : bytesE L ≤ 16777216) : Good L := by
  have ho : ∀ e ∈ L, checkNo e.path = 0 ∧ parent e.path = [] := fun e he => by
    have := List.all_eq_true.1 h1 e.path (by rw [← hp]; exact List.mem_map.2 ⟨e, he, rfl⟩)
    unfold pathOk at this
    simpa using this
  refine ⟨fun e he => ?_, fun e he => ?_, ?_, hl, hb⟩
  · obtain ⟨a, b, c, d⟩ := hk e he
    have hc := (ho e he).1
    unfold itselfNo
    rw [a, b, c, hc]
    simp
    omega
  · unfold upNo
    rw [if_pos (ho e he).2]
  · rw [← hp] at h2
    exact List.pairwise_map.1 h2
theorem bytes_map (s : ByteArray) (n : Nat) : ∀ l : List Nat, bytesE (l.map (fun i => bigE s (i + n))) = l.length * s.size
  | [] => by simp [bytesE]
  | a :: r => by
    rw [List.map_cons, bytesE_cons, bytes_map s n r, List.length_cons, Nat.add_mul]
    show s.size + _ = _
    omega
section
variable {s t : ByteArray} (hs : s.size = 1048576) (ht : t.size = 1048575)
include hs
theorem big_y : Good (bigL s 16) := by
  refine good_files (ps := ps16) rfl (fun e he => ?_) ?_ ?_ (by rw [bigL_len]; decide) ?_
  · obtain ⟨i, _, rfl⟩ := List.mem_map.1 he
    exact ⟨rfl, rfl, rfl, Nat.le_of_eq hs⟩
  · have := ps_ok
    rw [List.all_append, Bool.and_eq_true] at this
    exact this.1
  · exact (List.pairwise_append.1 ps_inc).1
  · have := bytes_map s 0 (List.range 16)
    rw [List.length_range, hs] at this
    exact Nat.le_of_eq this
include ht
theorem big_bytes : bytesE (bigX s t) = 16777216 := by
  have := bytes_map s 1 (List.range 15)
  rw [List.length_range, hs] at this
  unfold bigX
  rw [bytesE_cons, bytesE_append]
  show t.size + (bytesE (restE s) + 1) = _
  rw [show bytesE (restE s) = 15 * 1048576 from this, ht]
theorem big_x : Good (bigX s t) := by
  refine good_files (ps := ps16 ++ [eG.path]) rfl (fun e he => ?_) ps_ok ps_inc (by unfold bigX restE; simp) (by rw [big_bytes hs ht]; exact Nat.le_refl _)
  rcases List.mem_cons.1 he with rfl | he
  · exact ⟨rfl, rfl, rfl, show t.size ≤ _ by omega⟩
  rcases List.mem_append.1 he with he | he
  · obtain ⟨i, _, rfl⟩ := List.mem_map.1 he
    exact ⟨rfl, rfl, rfl, Nat.le_of_eq hs⟩
  · rw [List.mem_singleton.1 he]
    exact ⟨rfl, rfl, rfl, by decide⟩
omit hs ht in
theorem tail_same (g : Ent) : ∀ (l : List Ent) (f : Nat), l.length < f → chgF f (l ++ [g]) l none = [goneOf g]
  | [], 0, h => by simp at h
  | [], f + 1, h => by
    show chgF (f + 1) [g] [] none = _
    unfold chgF
    rw [if_neg (show ¬ hid none g.path = true from fun h => by cases h)]
    cases f <;> rfl
  | x :: l, 0, h => by simp at h
  | x :: l, f + 1, h => by
    have h0 : compareP x.path x.path = 0 := compareP_zero.2 rfl
    rw [List.cons_append]
    unfold chgF
    rw [if_neg (by omega), if_neg (by omega), if_pos (by unfold alike; simp), if_pos (entEq_iff.2 rfl)]
    exact tail_same g l f (by simp at h; omega)
theorem big_chg : chgL (bigX s t) (bigL s 16) = [layOf (bigE s 0), goneOf eG] := by
  rw [bigL_16]
  unfold chgL bigX
  rw [show (bigE t 0 :: (restE s ++ [eG])).length + (bigE s 0 :: restE s).length = 32 + 1 by unfold restE; simp]
  unfold chgF
  have h0 : compareP (bigE t 0).path (bigE s 0).path = 0 := compareP_zero.2 rfl
  rw [if_neg (by omega), if_neg (by omega), if_pos (show alike (bigE t 0) (bigE s 0) = true from rfl), if_neg (fun e => by
    have := congrArg (fun x : Ent => x.d.size) (entEq_iff.1 e)
    have : t.size = s.size := this
    omega)]
  rw [tail_same eG (restE s) 32 (by unfold restE; simp)]
theorem big_yes : applyL (bigX s t) [layOf (bigE s 0), goneOf eG] = .ok (bigL s 16) := by
  rw [← big_chg hs ht]
  exact applyL_diff (by rw [(big_x hs ht).check]) (big_x hs ht) (big_y hs)
theorem big_no : applyL (bigX s t) [layOf (bigE s 0)] = .error (5, 1, 1) := by
  have hg := big_x hs ht
  have hl : lookE (bigX s t) (bigE s 0).path = some (bigE t 0) := by unfold bigX; rw [lookE_cons, if_pos (show (bigE t 0).path = (bigE s 0).path from rfl)]
  have hd : doneL (bigX s t) (layOf (bigE s 0)) = .ok (laidL (bigX s t) (bigE s 0)) :=
    lay_done (big_y hs) (by rw [bigL_16]; exact List.mem_cons_self ..) (by
      unfold upNo
      rw [if_pos (by kernel_rfl)]) (.inr ⟨_, hl, rfl⟩)
  obtain ⟨h1, h2⟩ := laid_len_old (e := bigE s 0) hg.inc hl
  rw [big_bytes hs ht] at h2
  have h2 : bytesE (laidL (bigX s t) (bigE s 0)) + t.size = 16777216 + s.size := h2
  unfold applyL
  rw [hg.check, if_neg (by decide), doL_cons hd]
  show (if _ ∨ 16777216 < bytesE (laidL (bigX s t) (bigE s 0)) then _ else _) = _
  rw [if_pos (.inr (by omega))]
  rfl
end
end Go.Proofs.YtipfccfjniglbaaGreatDoor
