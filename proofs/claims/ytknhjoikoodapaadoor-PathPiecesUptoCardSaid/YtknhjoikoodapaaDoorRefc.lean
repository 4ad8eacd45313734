/- The contract of the reference's Clean. -/
import Derived.Test.YtknhjoikoodapaaDoorRef
set_option linter.unusedSimpArgs false
set_option linter.unusedVariables false
namespace Go.Proofs.YtknhjoikoodapaaDoor
open Go.RowKit
open Go.Lib hiding intOf

theorem step_ne {st : List (List UInt8)} {p : List UInt8} (hp : p ≠ []) (h : ∀ q ∈ st, q ≠ []) : ∀ q ∈ cleanStep st p, q ≠ [] := by
  intro q hq
  unfold cleanStep at hq
  split at hq
  · exact h q hq
  · split at hq
    · exact h q (List.dropLast_subset _ hq)
    · rcases List.mem_append.1 hq with h1 | h1
      · exact h q h1
      · simp at h1; subst h1; exact hp
theorem fold_ne : ∀ (ps st : List (List UInt8)), (∀ q ∈ ps, q ≠ []) → (∀ q ∈ st, q ≠ []) → ∀ q ∈ ps.foldl cleanStep st, q ≠ []
  | [], st, _, h => h
  | p :: ps, st, hp, h => fold_ne ps _ (fun q hq => hp q (List.mem_cons_of_mem _ hq)) (step_ne (hp p (List.mem_cons_self ..)) h)
theorem pieces_mem_ne (l : List UInt8) : ∀ q ∈ pieces l, q ≠ [] := by
  intro q hq
  have := (List.mem_filter.1 hq).2
  intro h
  subst h
  simp at this
theorem clean_mem_ne (l : List UInt8) : ∀ q ∈ cleanPieces l, q ≠ [] := fold_ne _ _ (pieces_mem_ne l) (fun q h => by cases h)
theorem join_snoc {L : List (List UInt8)} {x : List UInt8} (h : ∀ q ∈ L, q ≠ []) : Lib.join (L ++ [x]) [47] = joinP (Lib.join L [47]) x := by
  cases L with
  | nil => simp [joinP, Lib.join_one, Lib.join_nil]
  | cons p L =>
    have hp : p ≠ [] := h p (List.mem_cons_self ..)
    rw [List.cons_append, Lib.join_cons, Lib.join_cons]
    unfold joinP
    rw [if_neg (by simp [hp])]
    simp [Lib.joinTail]

set_option maxRecDepth 100000 in
set_option maxHeartbeats 8000000 in
theorem rclean_any (s : ByteArray) (w : World) (hs : s.size ≤ 1099511627776) :
    Calls Tryd.prog 27 #[.string s] w fun e w' => e = .returned (.string (bs (cleanP s.data.toList))) ∧ Below w.heap.size w w' := by
  obtain ⟨i0, hi, hz0, hz1, hz2⟩ := info_parts Tryd.infoString
  have Hi := Lib.hid hi
  have Hz0 := Lib.hid hz0
  have Hz1 := Lib.hid hz1
  have Hz2 := Lib.hid hz2
  clear hi hz0 hz1 hz2
  have Hpc := Lib.hid (rpieces_any s w hs)
  have hwp := weight_pieces s.data.toList
  have hwc := weight_clean s.data.toList
  rw [← size_eq] at hwp hwc
  have hL := weight_length (pieces s.data.toList)
  have Hcp : Hid (cleanPieces s.data.toList = (pieces s.data.toList).foldl cleanStep []) := Lib.hid rfl
  have Hcl : Hid (cleanP s.data.toList = Lib.join (cleanPieces s.data.toList) [47]) := Lib.hid rfl
  have hcne := clean_mem_ne s.data.toList
  have hcl := weight_length (cleanPieces s.data.toList)
  have Hcne := Lib.hid hcne
  have hst : ∀ (k : Nat), ((pieces s.data.toList).take k).foldl cleanStep [] = ((pieces s.data.toList).take k).foldl cleanStep [] := fun _ => rfl
  clear hcne hst
  generalize pieces s.data.toList = L at *
  generalize cleanPieces s.data.toList = C at *
  have hwk : ∀ k, ((L.take k).foldl cleanStep []).length ≤ s.size + 1 := by
    intro k
    have h1 := weight_length ((L.take k).foldl cleanStep [])
    have h2 := weight_fold (L.take k) []
    have h3 : weight (L.take k) ≤ weight L := by
      have := weight_append (L.take k) (L.drop k)
      rw [List.take_append_drop] at this
      omega
    rw [weight_nil] at h2
    omega
  have hck : ∀ k, (Lib.join (C.take k) [47]).length ≤ s.size + 1 := by
    intro k
    have h1 := join_length (C.take k) [47] rfl
    have h3 : weight (C.take k) ≤ weight C := by
      have := weight_append (C.take k) (C.drop k)
      rw [List.take_append_drop] at this
      omega
    omega
  have hcm : ∀ x ∈ C, x.length ≤ s.size + 1 := by
    intro x hx
    obtain ⟨a, b, rfl⟩ := List.append_of_mem hx
    rw [weight_append, weight_cons] at hwc
    omega
  have Hwk := Lib.hid hwk
  have Hck := Lib.hid hck
  have Hcm := Lib.hid hcm
  have hLn : L.length ≤ s.size + 1 := by omega
  have hCn : C.length ≤ s.size + 1 := by omega
  clear hwk hck hcm hwp hwc hL hcl
  go_enter Tryd.func27, Tryd.ntmps27
  go_wp2_with fail
  refine Hpc.out.mono ?_
  rintro e w1 ⟨v, rfl, htx, hb⟩
  have hv : ∃ a n c, v = .slice a n c ∧ n = L.length ∧ ∀ (k : Nat) x, L[k]? = some x → ∃ g, a = some ⟨g, 0, none⟩ ∧ g < w1.heap.size ∧ w1.cell? ⟨g, k, none⟩ = some (.string (bs x)) := by
    by_cases hLe : L = []
    · subst hLe
      rcases htx.2 with ⟨rfl, _⟩ | ⟨g, cap, cur, rfl, _⟩
      · exact ⟨none, 0, 0, rfl, rfl, fun k x h => by simp at h⟩
      · exact ⟨some ⟨g, 0, none⟩, 0, cap, rfl, rfl, fun k x h => by simp at h⟩
    · obtain ⟨g, cap, rfl, _, hglt, hcells⟩ := texts_form htx hLe
      exact ⟨some ⟨g, 0, none⟩, _, cap, rfl, rfl, fun k x h => ⟨g, rfl, hglt, hcells k x h⟩⟩
  obtain ⟨a, n, c, rfl, hn, hcells⟩ := hv
  have hbs := hb.size
  have hn1 : n ≤ s.size + 1 := by omega
  have Hb := Lib.hid hb
  have Hn := Lib.hid hn
  have Hcells := Lib.hid hcells
  clear hb htx hcells hn
  go_wp2_with fail
  go_loopw [3, 5] (fun tv iv wr => ∃ k : Nat, iv = .int .i64 k ∧ k ≤ n ∧ Texts wr w1.heap.size tv ((L.take k).foldl cleanStep []) ∧ Below w1.heap.size w1 wr) (fun _ iv _ => n - (intOf iv).toNat)
  case atStart => exact ⟨0, rfl, by omega, World.ownsRow_nil _ _ _ _, Below.refl _ _⟩
  case round =>
    obtain ⟨k, rfl, hk, htx, hbr⟩ := hrel
    have hbrs := hbr.size
    have htl := Hwk.out k
    by_cases hlt : k < n
    · obtain ⟨x, hx⟩ : ∃ x, L[k]? = some x := ⟨_, List.getElem?_eq_getElem (by rw [← Hn.out]; exact hlt)⟩
      obtain ⟨g, rfl, hglt, hc1⟩ := Hcells.out k x hx
      have hc : wr.cell? ⟨g, k, none⟩ = some (.string (bs x)) := (hbr.cell (p := ⟨g, k, none⟩) hglt).trans hc1
      have hfold : (L.take (k + 1)).foldl cleanStep [] = cleanStep ((L.take k).foldl cleanStep []) x := by rw [List.take_add_one, hx, List.foldl_append]; rfl
      generalize (L.take k).foldl cleanStep [] = st at *
      have Hfold := Lib.hid hfold
      have Htx := Lib.hid htx
      have Hbr := Lib.hid hbr
      clear hx hc1 hfold htx hbr
      by_cases h1 : x = [46]
      · have t1 : ((bs x).toList == [46]) = true := by rw [bs_tl]; simp [h1]
        have E1 := Lib.hid (show cleanStep st x = st by unfold cleanStep; rw [if_pos h1])
        clear h1
        go_wp2
        go_roundw
        case rel => exact ⟨k + 1, by go_num, by omega, by rw [Hfold.out, E1.out]; exact Htx.out, Hbr.out⟩
        case measure => simp [intOf]; omega
      have t1 : ((bs x).toList == [46]) = false := by rw [bs_tl]; simp [h1]
      by_cases h2 : x = [46, 46]
      · have t2 : ((bs x).toList == [46, 46]) = true := by rw [bs_tl]; simp [h2]
        have E1 := Lib.hid (show cleanStep st x = st.dropLast by unfold cleanStep; rw [if_neg h1, if_pos h2])
        clear h1 h2
        by_cases hst : st = []
        · have Hst := Lib.hid hst
          rcases Htx.out.2 with ⟨rfl, h0⟩ | ⟨g', cap, cur, rfl, _, _⟩
          · rw [Hst.out] at Htx
            clear hst h0
            go_wp2
            go_roundw
            case rel => exact ⟨k + 1, by go_num, by omega, by rw [Hfold.out, E1.out, Hst.out]; exact Htx.out, Hbr.out⟩
            case measure => simp [intOf]; omega
          · have h0 : st.length = 0 := by rw [hst]; rfl
            rw [h0]
            have htx2 : Texts wr w1.heap.size (.slice (some ⟨g', 0, none⟩) 0 cap) [] := by have := Htx.out; rw [h0, hst] at this; exact this
            have Htx2 := Lib.hid htx2
            clear hst h0 htx2
            go_wp2
            go_roundw
            case rel => exact ⟨k + 1, by go_num, by omega, by rw [Hfold.out, E1.out, Hst.out]; exact Htx2.out, Hbr.out⟩
            case measure => simp [intOf]; omega
        · rcases Htx.out.2 with ⟨rfl, h0⟩ | ⟨g', cap, cur, rfl, _, _, hcap, _⟩
          · exact absurd (List.eq_nil_of_length_eq_zero h0) hst
          · have hpop := own_pop Htx.out
            have hpos : 0 < st.length := List.length_pos_iff.2 hst
            have hpop2 : Texts wr w1.heap.size (.slice (some ⟨g', 0, none⟩) (st.length - 1) cap) st.dropLast := by
              unfold Texts
              rw [List.length_dropLast, List.map_dropLast]
              exact hpop
            generalize st.length = m at *
            have Hpop := Lib.hid hpop2
            clear hpop hpop2 hst
            have hm1 : ((m : Int) - 1) = ((m - 1 : Nat) : Int) := by omega
            have hm2 : (0 : Int) < (m : Int) := by omega
            go_wp2
            go_roundw
            case rel => exact ⟨k + 1, by go_num, by omega, by rw [Hfold.out, E1.out]; exact Hpop.out, Hbr.out⟩
            case measure => simp [intOf]; omega
      · have t2 : ((bs x).toList == [46, 46]) = false := by rw [bs_tl]; simp [h2]
        have E1 := Lib.hid (show cleanStep st x = st ++ [x] by unfold cleanStep; rw [if_neg h1, if_neg h2])
        clear h1 h2
        go_wp2_with (at_builtin; refine wpList_append_own _ rfl _ _ 37 rfl w1.heap.size 9 i0 (.string ⟨#[]⟩) 1 16 Tryd.underlying37 Hi.out Hz0.out Hz1.out Hz2.out rfl (by decide) _ _ _ rfl (Htx.out.alloc _) ⟨wr.heap.size, 0, none⟩ 1 1 [.string (bs x)] rfl rfl (cell_one_new _ _ _) (by simp [Value.oneCell']) (by unfold maxLen; omega) (by omega) (by simp; omega) ?_; intro v' w2 hown' hgrow _)
        go_roundw
        case rel => exact ⟨k + 1, by go_num, by omega, by rw [Hfold.out, E1.out]; exact texts_snoc hown' rfl, texts_below Htx.out Hbr.out hgrow⟩
        case measure => simp [intOf]; omega
    · obtain rfl : k = n := by omega
      rw [List.take_of_length_le (by rw [Hn.out]; exact Nat.le_refl _), ← Hcp.out] at htx
      have hv : ∃ a2 n2 c2, u3 = .slice a2 n2 c2 ∧ n2 = C.length ∧ ∀ (k : Nat) x, C[k]? = some x → ∃ g, a2 = some ⟨g, 0, none⟩ ∧ wr.cell? ⟨g, k, none⟩ = some (.string (bs x)) := by
        by_cases hLe : C = []
        · subst hLe
          rcases htx.2 with ⟨rfl, _⟩ | ⟨g, cap, cur, rfl, _⟩
          · exact ⟨none, 0, 0, rfl, rfl, fun k x h => by simp at h⟩
          · exact ⟨some ⟨g, 0, none⟩, 0, cap, rfl, rfl, fun k x h => by simp at h⟩
        · obtain ⟨g, cap, rfl, _, hglt, hcells⟩ := texts_form htx hLe
          exact ⟨some ⟨g, 0, none⟩, _, cap, rfl, rfl, fun k x h => ⟨g, rfl, hcells k x h⟩⟩
      obtain ⟨a2, n2, c2, rfl, hn2, hcells2⟩ := hv
      have hn3 : n2 ≤ s.size + 1 := by omega
      have Hn2 := Lib.hid hn2
      have Hcells2 := Lib.hid hcells2
      have Hbr := Lib.hid hbr
      clear hn2 hcells2 hbr htx
      obtain ⟨wo, rfl⟩ : ∃ wo : World, wo = wr := ⟨_, rfl⟩
      go_wp2_with fail
      go_loopw [6, 7] (fun ov iv wr => ∃ k : Nat, iv = .int .i64 k ∧ k ≤ n2 ∧ wr = wo ∧ ov = .string (bs (Lib.join (C.take k) [47]))) (fun _ iv _ => n2 - (intOf iv).toNat)
      case atStart => exact ⟨0, rfl, by omega, rfl, rfl⟩
      case round =>
        obtain ⟨j, rfl, hj, rfl, rfl⟩ := hrel
        have hjl := Hck.out j
        by_cases hlt2 : j < n2
        · obtain ⟨x, hx⟩ : ∃ x, C[j]? = some x := ⟨_, List.getElem?_eq_getElem (by rw [← Hn2.out]; exact hlt2)⟩
          obtain ⟨g, rfl, hc⟩ := Hcells2.out j x hx
          have hxl := Hcm.out x (List.mem_of_getElem? hx)
          have hjn : Lib.join (C.take (j + 1)) [47] = joinP (Lib.join (C.take j) [47]) x := by
            rw [List.take_add_one, hx]
            exact join_snoc (fun q hq => Hcne.out q (List.mem_of_mem_take hq))
          have hjoin := fun W => rjoin_any (bs (Lib.join (C.take j) [47])) (bs x) W (by simp; omega)
          rw [bs_toList, bs_toList, ← hjn] at hjoin
          generalize bs (Lib.join (C.take j) [47]) = out at *
          have Hjoin := Lib.hid hjoin
          clear hjoin hjn hx
          go_wp2_with (go_at_call 25; refine (Hjoin.out _).mono ?_; rintro e w' ⟨rfl, rfl⟩)
          go_roundw
          case rel => exact ⟨j + 1, by go_num, by omega, by simp, rfl⟩
          case measure => simp [intOf]; omega
        · obtain rfl : j = n2 := by omega
          have G := Lib.hid (show cleanP s.data.toList = Lib.join (C.take j) [47] by rw [Hcl.out, List.take_of_length_le (by rw [Hn2.out]; exact Nat.le_refl _)])
          go_wp2
          go_ret
          exact ⟨by rw [G.out]; rfl, Hb.out.trans (Hbr.out.mono hbs)⟩
end Go.Proofs.YtknhjoikoodapaaDoor
