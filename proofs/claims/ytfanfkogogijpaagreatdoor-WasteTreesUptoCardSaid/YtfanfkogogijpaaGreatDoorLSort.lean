/- The lost ones are sorted: slices.SortFunc. -/
import Derived.Test.YtfanfkogogijpaaGreatDoorLLess
import Derived.Sort.OwnSorted
set_option linter.unusedSimpArgs false
set_option linter.unusedVariables false
namespace Go.Proofs.YtfanfkogogijpaaGreatDoor
open Go.RowKit Go.Maps Go.Sort
open Go.Lib hiding intOf size_eq
/-- a lost one whose path is no longer than so much -/
structure LB where
  x : LostB
  h : x.p.size ≤ 1099511627776
instance : Inhabited LB := ⟨⟨⟨⟨#[]⟩, 0, 0⟩, by decide⟩⟩
def encL (y : LB) : List Value := lostC y.x
theorem cmpInt_neg (a b : Nat) : Lib.compareInt (a : Int) (b : Int) = if a < b then -1 else if b < a then 1 else 0 := by
  unfold Lib.compareInt
  by_cases h : a < b
  · rw [if_pos (by omega), if_pos h]
  · rw [if_neg (by omega), if_neg h]
    by_cases h2 : b < a
    · rw [if_pos (by omega), if_pos h2]
    · rw [if_neg (by omega), if_neg h2]
theorem cfL_ahead (x y : LostB) : ltOf cfL x y = aheadB x.n y.n := by
  rw [Bool.eq_iff_iff, ahead_iff]
  unfold ltOf cfL
  rw [cmpInt_neg, decide_eq_true_eq]
  show _ ↔ y.b < x.b ∨ x.b = y.b ∧ compareP x.p.data.toList y.p.data.toList < 0
  by_cases h1 : y.b < x.b
  · rw [if_pos h1, if_neg (by decide)]
    simp [h1]
  · rw [if_neg h1]
    by_cases h2 : x.b < y.b
    · rw [if_pos h2, if_neg (by decide)]
      constructor
      · intro h; exact absurd h (by decide)
      · rintro (h | h) <;> omega
    · rw [if_neg h2, if_pos rfl]
      constructor
      · intro h; exact .inr ⟨by omega, h⟩
      · rintro (h | h)
        · omega
        · exact h.2
theorem swoL : SWO (ltOf fun x y : LB => cfL x.x y.x) := by
  have e : ∀ x y : LB, ltOf (fun x y : LB => cfL x.x y.x) x y = aheadB x.x.n y.x.n := fun x y => cfL_ahead x.x y.x
  refine ⟨fun x => ?_, fun x y z h1 h2 => ?_, fun x y z h1 h2 => ?_⟩
  · rw [e]
    simpa using ahead_irrefl x.x.n
  · rw [e] at *
    exact ahead_trans h1 h2
  · rw [e] at *
    have k1 : ¬ aheadB x.x.n y.x.n = true := by rw [h1]; decide
    have k2 : ¬ aheadB y.x.n z.x.n = true := by rw [h2]; decide
    have k3 : ¬ aheadB x.x.n z.x.n = true := by
      rw [ahead_iff] at *
      rw [not_or] at k1 k2 ⊢
      have f1 := compareP_flip x.x.n.p y.x.n.p
      have f2 := compareP_flip y.x.n.p z.x.n.p
      have f3 := compareP_flip x.x.n.p z.x.n.p
      refine ⟨by omega, fun ⟨hb, hc⟩ => ?_⟩
      have hxy : x.x.n.b = y.x.n.b := by omega
      have hyz : y.x.n.b = z.x.n.b := by omega
      have n1 : ¬ compareP x.x.n.p y.x.n.p < 0 := fun h => k1.2 ⟨hxy, h⟩
      have n2 : ¬ compareP y.x.n.p z.x.n.p < 0 := fun h => k2.2 ⟨hyz, h⟩
      by_cases z1 : compareP y.x.n.p x.x.n.p < 0
      · have := compareP_trans z1 hc
        exact n2 this
      · have : compareP x.x.n.p y.x.n.p = 0 := by omega
        rw [compareP_zero.1 this] at hc
        exact n2 hc
    simpa using k3
theorem flat_row (R : List LB) : (flatK encL 3 R.toArray).toList = R.flatMap encL := by
  have hz : ∀ e : LB, (encL e).length = 3 := fun e => rfl
  apply List.ext_getElem?
  intro j
  by_cases hj : j < R.length * 3
  · obtain ⟨y, hy⟩ : ∃ y, R[j / 3]? = some y := ⟨_, List.getElem?_eq_getElem (by omega)⟩
    obtain ⟨v, hv⟩ : ∃ v, (encL y)[j % 3]? = some v := ⟨_, List.getElem?_eq_getElem (by rw [hz]; omega)⟩
    have h1 := gflat_get hz hy hv
    rw [show j / 3 * 3 + j % 3 = j by omega] at h1
    rw [h1]
    have h2 := get_flatK encL 3 R.toArray j (by simpa using hj)
    rw [Array.getElem?_toList]
    rw [getElem?_pos _ _ (by simpa using hj)]
    rw [getElem!_pos _ _ (by simpa using hj)] at h2
    rw [h2]
    have h3 : R.toArray[j / 3]! = y := by simp [hy]
    rw [h3]
    have : (encL y)[j % 3]! = v := by simp [hv]
    rw [this]
  · rw [List.getElem?_eq_none (by simp; omega), List.getElem?_eq_none (by rw [gflat_len hz]; omega)]
theorem take_putG (cur : Array Value) (F : Array Value) (h : F.size ≤ cur.size) : (putCells (id : Value → Value) 0 F cur).toList.take F.size = F.toList := by
  apply List.ext_getElem?
  intro j
  by_cases hj : j < F.size
  · rw [List.getElem?_take_of_lt hj, Array.getElem?_toList, Array.getElem?_toList]
    simp [putCells, hj, show j < cur.size by omega]
  · rw [List.getElem?_take_eq_none (by omega), List.getElem?_eq_none (by simp; omega)]
theorem Tryz.aggLost (w : World) : (isAgg 55).run Tryz.prog w = .ok true w := by kernel_rfl
theorem Tryz.sizeLost (w : World) : (Go.sizeOf 55).run Tryz.prog w = .ok 3 w := by kernel_rfl
theorem lift_list : ∀ (R : List LostB), (∀ x ∈ R, x.p.size ≤ 1099511627776) → ∃ S : List LB, S.map LB.x = R
  | [], _ => ⟨[], rfl⟩
  | x :: R, h => by
    obtain ⟨S, hS⟩ := lift_list R fun y hy => h y (List.mem_cons_of_mem _ hy)
    exact ⟨⟨x, h x (List.mem_cons_self ..)⟩ :: S, by rw [List.map_cons, hS]⟩
theorem flat_lift (S : List LB) : S.flatMap encL = (S.map LB.x).flatMap lostC := by rw [List.flatMap_map]; rfl
set_option maxHeartbeats 1000000 in
/-- slices.SortFunc at the lost ones -/
theorem sort_any (R : List LostB) (hp : ∀ x ∈ R, x.p.size ≤ 1099511627776) (hl : R.length ≤ 1048576) (hne : R.Pairwise (fun a b => a.p ≠ b.p)) (v : Value) (base : Nat) (W : World) (h : W.ownsRow base 55 3 v R.length (R.flatMap lostC)) :
    Calls Tryz.prog 12 #[v, .func (.func 13) #[] #[]] W fun e w' => e = .returned (.tuple #[]) ∧ ∃ R' : List LostB, R'.Perm R ∧ (R'.map LostB.n).Pairwise (fun a b => aheadB a b = true) ∧ w'.ownsRow base 55 3 v R'.length (R'.flatMap lostC) ∧ W.grownBy w' v.ownBlock := by
  obtain ⟨hlen, h2⟩ := h
  rcases h2 with ⟨rfl, h0⟩ | ⟨g, cap, cur, rfl, hb, hg, h1, hcm, hsz, htk⟩
  · obtain rfl : R = [] := List.eq_nil_of_length_eq_zero h0
    refine (Tryz.sortLost_none none 0 (.func (.func 13) #[] #[]) W).mono ?_
    rintro e w' ⟨rfl, rfl⟩
    exact ⟨rfl, [], List.Perm.refl _, List.Pairwise.nil, ⟨rfl, .inl ⟨rfl, rfl⟩⟩, ⟨rfl, rfl, rfl, Nat.le_refl _, fun _ _ _ => rfl⟩⟩
  · obtain ⟨S, rfl⟩ := lift_list R hp
    rw [← flat_lift] at htk
    simp only [List.length_map] at h1 hsz htk hl ⊢
    have hF : (flatK encL 3 S.toArray).size = S.length * 3 := by simp
    have eg : ∀ args w, (callFunc 13 args).run Tryz.prog w = .ok (.enter 13 args) w := enters_of Tryz.func13 (by kernel_rfl) rfl
    have hH : HoldsK encL 3 W g 0 S.toArray := by
      intro j hj
      rw [hF] at hj
      refine ⟨?_, by unfold World.frozen?; rw [hg]; simp⟩
      have h3 : (cur.toList.take (S.length * 3))[j]? = (flatK encL 3 S.toArray).toList[j]? := by rw [htk, flat_row]
      rw [List.getElem?_take_of_lt hj] at h3
      unfold World.cell?
      rw [hg]
      simp only [Nat.zero_add, Option.isSome_none, Bool.false_eq_true, if_false]
      rw [← Array.getElem?_toList, h3, Array.getElem?_toList, getElem?_pos _ _ (by rw [hF]; exact hj), getElem!_pos _ _ (by rw [hF]; exact hj)]
      rfl
    have hcmp : CmpLays Tryz.prog 13 #[] encL 3 (fun x y : LB => cfL x.x y.x) g 0 S.toArray.size W := fun m os dk _ x y =>
      (less_any x.x y.x _ (by have := x.h; omega) (by have := y.h; omega)).mono fun e w' ⟨h1, h2⟩ => ⟨h1, h2⟩
    have hs := Tryz.sortLost Tryz.aggLost Tryz.sizeLost encL (fun _ => rfl) (fun x v hv => by simp [encL, lostC] at hv; rcases hv with rfl | rfl | rfl <;> rfl) (fun x y : LB => cfL x.x y.x) swoL 13 #[] g 0 cap S.toArray W eg hcmp hH (Array.getElem?_eq_some_iff.1 hg).1 (by simp; omega)
    refine hs.mono ?_
    rintro e w' ⟨rfl, d', n, os, hperm, hsort, rfl⟩
    have hd : d'.size = S.length := by simpa using hperm.1
    have hp2 : d'.toList.Perm S := by
      have := hperm.2.2
      rw [show S.toArray.size = S.length from rfl] at this
      have e1 : d'.extract 0 S.length = d' := by rw [← hd]; simp
      have e2 : S.toArray.extract 0 S.length = S.toArray := by simp
      rw [e1, e2] at this
      simpa using this
    have hF' : (flatK encL 3 d').size = S.length * 3 := by rw [size_flatK, hd]
    have hfr : (flatK encL 3 d').toList = d'.toList.flatMap encL := by
      have := flat_row d'.toList
      simpa using this
    have hw : sortWorldK encL 3 W g 0 n d' os = grow (putRow (id : Value → Value) (Sort.ahead W n) g 0 (flatK encL 3 d')) os := rfl
    have hlt : g < W.heap.size := heap_lt hg
    refine ⟨rfl, d'.toList.map LB.x, hp2.map _, ?_, ⟨?_, .inr ⟨g, cap, putCells (id : Value → Value) 0 (flatK encL 3 d') cur, ?_, hb, ?_, ?_, hcm, ?_, ?_⟩⟩, ?_⟩
    · have hnd : (d'.toList.map LB.x).Pairwise (fun a b => a.p ≠ b.p) := ((hp2.map LB.x).pairwise_iff (fun {a b} h => Ne.symm h)).2 hne
      rw [List.pairwise_map]
      rw [List.pairwise_iff_getElem] at hnd ⊢
      intro i j hi hj hij
      have k1 := hnd i j hi hj hij
      simp at hi hj
      have k2 := hsort i j (Nat.zero_le _) hij (by rw [show S.toArray.size = S.length from rfl]; omega)
      rw [getElem!_pos _ _ (by omega), getElem!_pos _ _ (by omega)] at k2
      have k3 : ltOf (fun x y : LB => cfL x.x y.x) d'[j] d'[i] = aheadB d'[j].x.n d'[i].x.n := cfL_ahead _ _
      rw [k3] at k2
      simp only [List.getElem_map, Array.getElem_toList] at k1 ⊢
      refine ahead_total (fun e => k1 ?_) (by rw [k2]; decide)
      exact (ba_ext e).symm
    · rw [← flat_lift, ← hfr]; simp [hd]
    · simp [hd]
    · rw [hw, heap_grow_old _ _ (by simpa using hlt)]
      simp [putRow, mapBlock, Sort.ahead, Array.getElem?_modify, hg]
      rfl
    · simp [hd]; omega
    · simp [putCells, hsz]
    · rw [← flat_lift, ← hfr, List.length_map, Array.length_toList, hd, ← hF']
      exact take_putG cur _ (by rw [hF', hsz]; exact Nat.mul_le_mul_right _ h1)
    · rw [hw]
      refine ⟨rfl, rfl, rfl, by simp, fun k hk hne => ?_⟩
      rw [heap_grow_old _ _ (by simpa using hk)]
      have : g ≠ k := fun e => hne (by rw [e]; rfl)
      simp [putRow, mapBlock, Sort.ahead, Array.getElem?_modify, this]
end Go.Proofs.YtfanfkogogijpaaGreatDoor
