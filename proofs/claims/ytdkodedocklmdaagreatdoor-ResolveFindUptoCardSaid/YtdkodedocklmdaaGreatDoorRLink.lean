/- The contract of a walk's link. -/
import Derived.Test.YtdkodedocklmdaaGreatDoorRTold
import Derived.Deep.RegionLaw
import Derived.Deep.DeepCutAuto
set_option linter.unusedSimpArgs false
set_option linter.unusedVariables false
namespace Go.Proofs.YtdkodedocklmdaaGreatDoor
open Go.RowKit Go.Shelf Go.Maps
open Go.Lib hiding intOf size_eq
theorem step_append_own {P : Program} {w : World} {ops : Array Oper} {o : Oper} {a : Act} {K : Act → World → Prop} {Q : Exit → Act → World → Prop} {X : Prop} (hgd : o.guard = none) (s x : Operand) (t : TypeId)
    (ho : o.op = .call { callee := .builtin .append, args := #[s, x], argTypes := #[t, t] })
    (base : Nat) (e : TypeId) (i : TypeInfo) (z : Value) (size bytes : Nat) (ht : P.underlying t = some (.slice e)) (hi : P.info? e = some i) (hz : i.zero = some z)
    (hsize : i.size = size) (hby : i.bytes = bytes) (hzs : z.cells.size = size) (hsz : 0 < size)
    (v : Value) (n : Nat) (xs : List Value) (hs : a.eval s = v) (hown : w.ownsRow base e size v n xs)
    (ad : Addr) (m c : Nat) (news : List Value) (hx : a.eval x = .slice (some ad) m c) (hl : news.length = m * size) (hnews : ∀ j u, news[j]? = some u → w.cell? (ad.add j) = some u) (h1 : ∀ u ∈ news, u.oneCell' = true)
    (h63 : n + m ≤ maxLen) (hbytes : (n + m) * bytes ≤ 140737488355328) (hbase : base ≤ w.heap.size)
    (h : ∀ v' w', w'.ownsRow base e size v' (n + m) (xs ++ news) → w.grownBy w' v.ownBlock → (v' = .slice none 0 0 ↔ v = .slice none 0 0 ∧ m = 0) → K (a.put o.dst v') w') :
    if Region.wanted o (yielded ops a.tmps) = true then Oper.wp P o a w K Q else X := by
  have hwt : Region.wanted o (yielded ops a.tmps) = true := by simp [Region.wanted, hgd]
  rw [if_pos hwt]
  obtain ⟨v', w', hr, h2, h3, h4, h5⟩ := run_append_own_at (P := P) w base t o.type e i z size bytes ht hi hz hsize hby hzs hsz v n xs hown ad m c news hl hnews h1 h63 hbytes hbase
  unfold Oper.wp execOp
  simp only [ho, resolve, invoke, builtin, Sem.run_bind, Sem.run_pure, Result.andThen_ok, List.map_toArray, List.map_cons, List.map_nil, hs, hx, hr]
  exact h v' w' h2 h3 h4
/-- what a link makes of a walk's place -/
def linkB (a t : ByteArray) : ByteArray := if t.data.toList.head? = some 47 then emp else a
theorem head_byte {t : ByteArray} (h : 0 < t.size) : t.data.toList.head? = some (t[0]'h) := by
  obtain ⟨⟨l⟩⟩ := t
  cases l with
  | nil => exact absurd (show 0 < 0 from h) (by omega)
  | cons x r => rfl
/-- how a link ends -/
def LinkEnd (w w5 : World) (T Wk : Nat) (a : ByteArray) (L : List (List UInt8)) (hops : Nat) (keep : Bool) (sv : Value) (o' : Option Addr) (n cap' : Nat) : Prop :=
  But [Wk] w (w5.setCell ⟨Wk, 2, none⟩ (.slice o' n cap')) ∧ (w5.setCell ⟨Wk, 2, none⟩ (.slice o' n cap')).heap[Wk]? = some (walkObj T a (.slice o' L.length cap') ((hops + 1 : Nat) : Int) keep sv) ∧ LeftA (w5.setCell ⟨Wk, 2, none⟩ (.slice o' n cap')) o' cap' L ∧ ∀ b, o' = some b → w.heap.size ≤ b.block
theorem link_end {w w5 : World} {T Wk : Nat} {a : ByteArray} {lv : Value} {L : List (List UInt8)} {hops : Nat} {keep : Bool} {sv : Value} {o' : Option Addr} {n cap' : Nat} (hb : But [Wk] w w5) (h : w5.heap[Wk]? = some (walkObj T a lv ((hops : Int) + 1) keep sv)) (hl : LeftA w5 o' cap' L)
    (hlo : ∀ b, o' = some b → w.heap.size ≤ b.block) (hne : ∀ b, o' = some b → b.block ≠ Wk) (hn : n = L.length) : LinkEnd w w5 T Wk a L hops keep sv o' n cap' := by
  subst hn
  refine ⟨hb.setCell (p := ⟨Wk, 2, none⟩) (.inl (List.mem_singleton.2 rfl)) _, ?_, ?_, hlo⟩
  · rw [walk_setLeft h]
    rfl
  · exact hl.but ((But.refl [Wk] w5).setCell (p := ⟨Wk, 2, none⟩) (.inl (List.mem_singleton.2 rfl)) _) (fun b hb2 => by simpa using hne b hb2)
set_option maxRecDepth 100000 in
set_option maxHeartbeats 4000000 in
theorem link_any {T Wk cap : Nat} {a : ByteArray} {ad : Addr} {left : List (List UInt8)} {hops : Nat} {keep : Bool} {sv : Value} (t : ByteArray) (w : World) (hw : w.heap[Wk]? = some (walkObj T a (.slice (some ad) left.length cap) hops keep sv))
    (hl : LeftA w (some ad) cap left) (ho : ad.block ≠ Wk) (ht0 : t.data.toList ≠ []) (ht : t.size ≤ 1099511627776) (hll : left.length ≤ 1099511627776) (hh : hops ≤ 40) :
    Calls Tryz.prog 141 #[.pointer (some ⟨Wk, 0, none⟩), .string t] w fun e w' => But [Wk] w w' ∧ (hops = 40 → e = .returned (.iface 105 (.int .i64 12))) ∧
      (hops ≠ 40 → e = .returned .nilIface ∧ ∃ o' cap', w'.heap[Wk]? = some (walkObj T (linkB a t) (.slice o' (pieces t.data.toList ++ left).length cap') ((hops + 1 : Nat) : Int) keep sv) ∧ LeftA w' o' cap' (pieces t.data.toList ++ left) ∧ ∀ b, o' = some b → w.heap.size ≤ b.block) := by
  obtain ⟨_, c1, c2, c3, _, _, _, _⟩ := walk_cells hw
  have f1 := walk_frozen hw 1
  have f2 := walk_frozen hw 2
  have f3 := walk_frozen hw 3
  by_cases h40 : hops = 40
  · subst h40
    clear hw hl
    go_enter Tryz.func141, Tryz.ntmps141
    go_wp2
    go_ret
    exact ⟨But.refl _ _, fun _ => rfl, fun h => absurd rfl h⟩
  · have b0 : ((hops : Int) == 40) = false := by simp; omega
    have hn0 : 0 < t.size := by rw [Lib.size_eq]; exact List.length_pos_iff.2 ht0
    obtain ⟨i0, hi, hz0, hz1, hz2⟩ := info_parts Tryz.infoString
    have Hi := Lib.hid hi
    have Hz0 := Lib.hid hz0
    have Hz1 := Lib.hid hz1
    have Hz2 := Lib.hid hz2
    obtain ⟨n, hnn⟩ : ∃ n, n = (pieces t.data.toList).length := ⟨_, rfl⟩
    have hlen : n + left.length ≤ 4398046511104 := by
      have h1 := weight_length (pieces t.data.toList)
      have h2 := weight_pieces t.data.toList
      rw [← Lib.size_eq] at h2
      omega
    clear hi hz0 hz1 hz2
    by_cases hb : t.data.toList.head? = some 47
    · have b1 : (((t[0]'hn0).toNat : Int) == 47) = true := by rw [head_byte hn0] at hb; injection hb with hb; rw [hb]; rfl
      go_enter Tryz.func141, Tryz.ntmps141
      go_upto_region 6 with fail
      obtain ⟨w3, hw3⟩ : ∃ x, x = ((w.setCell ⟨Wk, 3, none⟩ (.int .i64 ((hops : Int) + 1))).setCell ⟨Wk, 1, none⟩ (.string ⟨#[]⟩)) := ⟨_, rfl⟩
      have H3 : w3.heap[Wk]? = some (walkObj T emp (.slice (some ad) left.length cap) ((hops : Int) + 1) keep sv) := by rw [hw3]; exact walk_setAt (walk_setHops hw ((hops : Int) + 1)) ⟨#[]⟩
      have hB3 : But [Wk] w w3 := by rw [hw3]; exact ((But.refl [Wk] w).setCell (p := ⟨Wk, 3, none⟩) (.inl (List.mem_singleton.2 rfl)) _).setCell (p := ⟨Wk, 1, none⟩) (.inl (List.mem_singleton.2 rfl)) _
      have hlink : linkB a t = emp := if_pos hb
      have hL3 := hl.but hB3 (fun b hb2 => by injection hb2 with hb2; subst hb2; simpa using ho)
      have d2 := (walk_cells H3).2.2.1
      have hWk := heap_lt H3
      have after : ∀ w4 v, Texts w4 w3.heap.size v (pieces t.data.toList) → Below w3.heap.size w3 w4 → ∃ o2 cap2, v = .slice o2 n cap2 ∧ w4.ownsRow w3.heap.size 9 1 (.slice o2 n cap2) n ((pieces t.data.toList).map encS) ∧ (∀ j u, (left.map encS)[j]? = some u → w4.cell? (ad.add j) = some u) ∧ w3.heap.size ≤ w4.heap.size ∧ w4.cell? ⟨Wk, 2, none⟩ = some (.slice (some ad) left.length cap) ∧
          ∀ v' w5, w5.ownsRow w3.heap.size 9 1 v' (n + left.length) ((pieces t.data.toList).map encS ++ left.map encS) → w4.grownBy w5 (Value.slice o2 n cap2).ownBlock → ∃ o' cap', v' = .slice o' (n + left.length) cap' ∧ w5.frozen? ⟨Wk, 2, none⟩ = false ∧ w5.cell? ⟨Wk, 2, none⟩ = some (.slice (some ad) left.length cap) ∧ LinkEnd w w5 T Wk (linkB a t) (pieces t.data.toList ++ left) hops keep sv o' (n + left.length) cap' := by
        intro w4 v htx hb4
        obtain ⟨o2, cap2, rfl, hla2, hlo2⟩ := left_of_texts htx
        have h4 : w4.heap[Wk]? = _ := (hb4.block Wk hWk).trans H3
        refine ⟨o2, cap2, by rw [hnn], by rw [hnn]; exact htx, ?_, hb4.size, (walk_cells h4).2.2.1, ?_⟩
        · intro j u hu
          rw [List.getElem?_map] at hu
          obtain ⟨x, hx, rfl⟩ := Option.map_eq_some_iff.1 hu
          obtain ⟨b, hb2, hc⟩ := hL3.cell j x hx
          injection hb2 with hb2
          subst hb2
          have hlt := hL3.lt _ rfl
          unfold World.cell? at hc ⊢
          rw [add_block] at hc ⊢
          rw [hb4.block _ hlt]
          exact hc
        · intro v' w5 hown hgr
          have hown2 : Texts w5 w3.heap.size v' (pieces t.data.toList ++ left) := by
            unfold Texts
            rw [List.length_append, List.map_append, ← hnn]
            exact hown
          obtain ⟨o', cap', rfl, hla, hlo⟩ := left_of_texts hown2
          have h5 : w5.heap[Wk]? = _ := (hgr.block Wk (Nat.lt_of_lt_of_le hWk hb4.size) (fun e => by
            cases o2 with
            | none => simp [Value.ownBlock] at e
            | some g => simp [Value.ownBlock] at e; have := hlo2 g rfl; omega)).trans h4
          have hb5 : But [Wk] w w5 := (hB3.below hb4).grown hgr (fun k e => .inr (by
            cases o2 with
            | none => simp [Value.ownBlock] at e
            | some g => simp [Value.ownBlock] at e; have := hlo2 g rfl; have := hB3.size; omega))
          refine ⟨o', cap', by rw [List.length_append, hnn], walk_frozen h5 2, (walk_cells h5).2.2.1, ?_⟩
          refine link_end hb5 (by rw [hlink]; exact h5) hla (fun b hb2 => by have := hlo b hb2; have := hB3.size; omega) (fun b hb2 => by have := hlo b hb2; have hwk := heap_lt H3; omega) (by rw [List.length_append, hnn])
      have H2 := Lib.hid (fun W => pieces_any t W ht)
      have HA := Lib.hid after
      have Hlen := Lib.hid hlen
      have D2 := d2
      rw [← hw3]
      clear hnn hw hl hw3 H3 hB3 hlink hL3 after c1 c2 c3 f1 f2 f3 hb hlen
      go_region_law (first
        | (refine step_append_own (by rfl) _ _ 70 (by rfl) w3.heap.size 9 i0 (.string ⟨#[]⟩) 1 16 Tryz.underlying70 Hi.out Hz0.out Hz1.out Hz2.out rfl (by decide) _ n _ (by rfl) HR.out ad left.length cap (left.map encS) (by rfl) (by simp) HN.out (by intro u hu; obtain ⟨x, _, rfl⟩ := List.mem_map.1 hu; rfl) (by unfold maxLen; have := Hlen.out; omega) (by have := Hlen.out; omega) hs4 ?_
           intro v' w5 hown hgr _
           obtain ⟨o', cap', rfl, hf5, hc5, hend⟩ := HX.out v' w5 hown hgr
           have HE := Lib.hid hend
           clear hown hgr hend)
        | (go_simp; go_at_call 76; refine (H2.out _).mono ?_; rintro e w4 ⟨v, rfl, htx, hb4⟩
           obtain ⟨o2, cap2, rfl, hr, hnw, hs4, hc4, hx⟩ := HA.out w4 v htx ⟨hb4.os, hb4.tape, hb4.output, hb4.size, hb4.block⟩
           have HR := Lib.hid hr
           have HN := Lib.hid hnw
           have HX := Lib.hid hx
           clear htx hb4 hr hnw hx))
      all_goals go_wp2_with fail
      all_goals go_ret
      all_goals exact ⟨HE.out.1, fun h => absurd h h40, fun _ => ⟨rfl, _, _, HE.out.2.1, HE.out.2.2.1, HE.out.2.2.2⟩⟩
    · have b1 : (((t[0]'hn0).toNat : Int) == 47) = false := by
        rw [head_byte hn0] at hb
        simp only [beq_eq_false_iff_ne, ne_eq]
        intro h
        exact hb (by congr 1; exact UInt8.toNat_inj.1 (by have : (47 : UInt8).toNat = 47 := rfl; omega))
      go_enter Tryz.func141, Tryz.ntmps141
      go_upto_region 6 with fail
      obtain ⟨w3, hw3⟩ : ∃ x, x = (w.setCell ⟨Wk, 3, none⟩ (.int .i64 ((hops : Int) + 1))) := ⟨_, rfl⟩
      have H3 : w3.heap[Wk]? = some (walkObj T a (.slice (some ad) left.length cap) ((hops : Int) + 1) keep sv) := by rw [hw3]; exact walk_setHops hw ((hops : Int) + 1)
      have hB3 : But [Wk] w w3 := by rw [hw3]; exact (But.refl [Wk] w).setCell (p := ⟨Wk, 3, none⟩) (.inl (List.mem_singleton.2 rfl)) _
      have hlink : linkB a t = a := if_neg hb
      have hL3 := hl.but hB3 (fun b hb2 => by injection hb2 with hb2; subst hb2; simpa using ho)
      have d2 := (walk_cells H3).2.2.1
      have hWk := heap_lt H3
      have after : ∀ w4 v, Texts w4 w3.heap.size v (pieces t.data.toList) → Below w3.heap.size w3 w4 → ∃ o2 cap2, v = .slice o2 n cap2 ∧ w4.ownsRow w3.heap.size 9 1 (.slice o2 n cap2) n ((pieces t.data.toList).map encS) ∧ (∀ j u, (left.map encS)[j]? = some u → w4.cell? (ad.add j) = some u) ∧ w3.heap.size ≤ w4.heap.size ∧ w4.cell? ⟨Wk, 2, none⟩ = some (.slice (some ad) left.length cap) ∧
          ∀ v' w5, w5.ownsRow w3.heap.size 9 1 v' (n + left.length) ((pieces t.data.toList).map encS ++ left.map encS) → w4.grownBy w5 (Value.slice o2 n cap2).ownBlock → ∃ o' cap', v' = .slice o' (n + left.length) cap' ∧ w5.frozen? ⟨Wk, 2, none⟩ = false ∧ w5.cell? ⟨Wk, 2, none⟩ = some (.slice (some ad) left.length cap) ∧ LinkEnd w w5 T Wk (linkB a t) (pieces t.data.toList ++ left) hops keep sv o' (n + left.length) cap' := by
        intro w4 v htx hb4
        obtain ⟨o2, cap2, rfl, hla2, hlo2⟩ := left_of_texts htx
        have h4 : w4.heap[Wk]? = _ := (hb4.block Wk hWk).trans H3
        refine ⟨o2, cap2, by rw [hnn], by rw [hnn]; exact htx, ?_, hb4.size, (walk_cells h4).2.2.1, ?_⟩
        · intro j u hu
          rw [List.getElem?_map] at hu
          obtain ⟨x, hx, rfl⟩ := Option.map_eq_some_iff.1 hu
          obtain ⟨b, hb2, hc⟩ := hL3.cell j x hx
          injection hb2 with hb2
          subst hb2
          have hlt := hL3.lt _ rfl
          unfold World.cell? at hc ⊢
          rw [add_block] at hc ⊢
          rw [hb4.block _ hlt]
          exact hc
        · intro v' w5 hown hgr
          have hown2 : Texts w5 w3.heap.size v' (pieces t.data.toList ++ left) := by
            unfold Texts
            rw [List.length_append, List.map_append, ← hnn]
            exact hown
          obtain ⟨o', cap', rfl, hla, hlo⟩ := left_of_texts hown2
          have h5 : w5.heap[Wk]? = _ := (hgr.block Wk (Nat.lt_of_lt_of_le hWk hb4.size) (fun e => by
            cases o2 with
            | none => simp [Value.ownBlock] at e
            | some g => simp [Value.ownBlock] at e; have := hlo2 g rfl; omega)).trans h4
          have hb5 : But [Wk] w w5 := (hB3.below hb4).grown hgr (fun k e => .inr (by
            cases o2 with
            | none => simp [Value.ownBlock] at e
            | some g => simp [Value.ownBlock] at e; have := hlo2 g rfl; have := hB3.size; omega))
          refine ⟨o', cap', by rw [List.length_append, hnn], walk_frozen h5 2, (walk_cells h5).2.2.1, ?_⟩
          refine link_end hb5 (by rw [hlink]; exact h5) hla (fun b hb2 => by have := hlo b hb2; have := hB3.size; omega) (fun b hb2 => by have := hlo b hb2; have hwk := heap_lt H3; omega) (by rw [List.length_append, hnn])
      have H2 := Lib.hid (fun W => pieces_any t W ht)
      have HA := Lib.hid after
      have Hlen := Lib.hid hlen
      have D2 := d2
      rw [← hw3]
      clear hnn hw hl hw3 H3 hB3 hlink hL3 after c1 c2 c3 f1 f2 f3 hb hlen
      go_region_law (first
        | (refine step_append_own (by rfl) _ _ 70 (by rfl) w3.heap.size 9 i0 (.string ⟨#[]⟩) 1 16 Tryz.underlying70 Hi.out Hz0.out Hz1.out Hz2.out rfl (by decide) _ n _ (by rfl) HR.out ad left.length cap (left.map encS) (by rfl) (by simp) HN.out (by intro u hu; obtain ⟨x, _, rfl⟩ := List.mem_map.1 hu; rfl) (by unfold maxLen; have := Hlen.out; omega) (by have := Hlen.out; omega) hs4 ?_
           intro v' w5 hown hgr _
           obtain ⟨o', cap', rfl, hf5, hc5, hend⟩ := HX.out v' w5 hown hgr
           have HE := Lib.hid hend
           clear hown hgr hend)
        | (go_simp; go_at_call 76; refine (H2.out _).mono ?_; rintro e w4 ⟨v, rfl, htx, hb4⟩
           obtain ⟨o2, cap2, rfl, hr, hnw, hs4, hc4, hx⟩ := HA.out w4 v htx ⟨hb4.os, hb4.tape, hb4.output, hb4.size, hb4.block⟩
           have HR := Lib.hid hr
           have HN := Lib.hid hnw
           have HX := Lib.hid hx
           clear htx hb4 hr hnw hx))
      all_goals go_wp2_with fail
      all_goals go_ret
      all_goals exact ⟨HE.out.1, fun h => absurd h h40, fun _ => ⟨rfl, _, _, HE.out.2.1, HE.out.2.2.1, HE.out.2.2.2⟩⟩
end Go.Proofs.YtdkodedocklmdaaGreatDoor
