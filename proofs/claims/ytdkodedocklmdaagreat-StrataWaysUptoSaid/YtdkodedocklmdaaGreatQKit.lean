/- Two trees that change, a list beside them; Make, Place, List in handy forms. -/
import Derived.Test.YtdkodedocklmdaaGreatRSome
import Derived.Test.YtdkodedocklmdaaGreatMLaw
import Derived.Test.YtdkodedocklmdaaGreatMWays
import Derived.Test.YtdkodedocklmdaaGreatTListed
set_option linter.unusedSimpArgs false
set_option linter.unusedVariables false
namespace Go.Proofs.YtdkodedocklmdaaGreat
open Go.RowKit Go.Shelf Go.Maps Go.Sort
open Go.Lib hiding intOf size_eq
theorem ents_keep2 {w w' : World} {v : Value} {L : List Ent} (h : EntsAt w v L) (hs : w.heap.size ≤ w'.heap.size) (hk : ∀ b n c, v = .slice (some b) n c → L ≠ [] → w'.heap[b.block]? = w.heap[b.block]?) : EntsAt w' v L := by
  obtain ⟨o, cap, rfl, h1, h2, h3⟩ := h
  refine ⟨o, cap, rfl, h1, h2, fun i e he => ?_⟩
  obtain ⟨a, rfl, hl, hc⟩ := h3 i e he
  refine ⟨a, rfl, Nat.lt_of_lt_of_le hl hs, fun j x hx => ?_⟩
  have := hc j x hx
  unfold World.cell? at this ⊢
  rw [add_block, add_block] at this ⊢
  rw [hk a _ _ rfl (fun e0 => by rw [e0] at he; cases he)]
  exact this
theorem ents_lt2 {w : World} {b : Addr} {n c : Nat} {L : List Ent} (h : EntsAt w (.slice (some b) n c) L) (hL : L ≠ []) : b.block < w.heap.size := by
  obtain ⟨o, cap, hv, _, _, h3⟩ := h
  obtain ⟨e, he⟩ : ∃ e, L[0]? = some e := ⟨_, List.getElem?_eq_getElem (List.length_pos_iff.2 hL)⟩
  obtain ⟨a, ha, hl, _⟩ := h3 0 e he
  injection hv with h1 _ _
  rw [ha] at h1
  injection h1 with h1
  rw [h1]
  exact hl
/-- a list that lies beside a tree -/
structure NowAt (W : World) (T rt rm : Nat) (nd : List Nd) (v : Value) (L : List Ent) : Prop where
  ents : EntsAt W v L
  off : ∀ b n c, v = .slice (some b) n c → L ≠ [] → ¬ IsBlk T rt rm nd b.block
theorem NowAt.below {W W' : World} {T rt rm : Nat} {nd : List Nd} {v : Value} {L : List Ent} (h : NowAt W T rt rm nd v L) (hb : Below W.heap.size W W') : NowAt W' T rt rm nd v L :=
  ⟨h.ents.below hb (Nat.le_refl _), h.off⟩
theorem NowAt.turned {W W' : World} {T rt rm : Nat} {nd nd' : List Nd} {v : Value} {L : List Ent} (h : NowAt W T rt rm nd v L) (ht : Turned T rt rm nd nd' W W') : NowAt W' T rt rm nd' v L := by
  have hlt : ∀ b n c, v = .slice (some b) n c → L ≠ [] → b.block < W.heap.size := fun b n c hv hL => by
    have := h.ents
    rw [hv] at this
    exact ents_lt2 this hL
  refine ⟨ents_keep2 h.ents ht.size (fun b n c hv hL => ht.keep _ (hlt b n c hv hL) (h.off b n c hv hL)), fun b n c hv hL hx => ?_⟩
  rcases ht.blk _ hx with hx | hx
  · exact h.off b n c hv hL hx
  · have := hlt b n c hv hL
    omega
section
variable {w W W' : World} {T rt rm U ru mu : Nat} {nd nd' nu nu' : List Nd} {v : Value} {L : List Ent}
/-- a tree's list, as it answers -/
theorem list_now {tb : Nat} (ht : TreeAt W T rt rm tb nd) :
    Calls Tryz.prog 11 #[.pointer (some ⟨T, 0, none⟩)] W fun e w' => ∃ o cap, e = .returned (.slice o (ents nd).length cap) ∧ NowAt w' T rt rm nd (.slice o (ents nd).length cap) (ents nd) ∧ Below W.heap.size W w' :=
  (list_any W ht).mono fun e w' h => by
    obtain ⟨va, h1, h2, h3⟩ := h
    have h4 := ents_of_row h2
    obtain ⟨_, h5⟩ := h2
    obtain ⟨o, cap, hv, _⟩ := id h4
    subst hv
    refine ⟨o, cap, h1, ⟨h4, fun b n c hv hL hx => ?_⟩, h3⟩
    injection hv with hv _ _
    subst hv
    rcases h5 with ⟨e2, _⟩ | ⟨g, cap2, cur, e2, hb, hg, _⟩
    · cases e2
    · injection e2 with e2 _ _
      injection e2 with e2
      subst e2
      have := ht.lt hx
      simp only [] at this
      omega
end
theorem make_ok {T rt rm tb : Nat} {nd : List Nd} {L' : List Ent} {p : List UInt8} (s : ByteArray) (w : World) (ht : TreeAt w T rt rm tb nd) (hs : s.size ≤ 4294967296) (h : makeWay true (ents nd) s.data.toList = (L', .ok p)) :
    Calls Tryz.prog 14 #[.pointer (some ⟨T, 0, none⟩), .string s] w fun r w' => r = .returned (.tuple #[.string (bs p), .nilIface]) ∧ ∃ nd', ents nd' = L' ∧ TreeAt w' T rt rm tb nd' ∧ Turned T rt rm nd nd' w w' :=
  (make_way s w ht hs).mono fun r w' ⟨h1, h2⟩ => by
    rw [h] at h1 h2
    exact ⟨h1, h2⟩
theorem makeWay_err {mk : Bool} {L L' : List Ent} {way : List UInt8} {n : Nat} (h : makeWay mk L way = (L', .error n)) : L' = L ∧ n ≠ 0 := by
  unfold makeWay at h
  have := fun n => makeF_err (mk := mk) (n := n) (needF (pieces way).length 0) L [] (pieces way) 0 []
  generalize makeF mk (needF (pieces way).length 0) L [] (pieces way) 0 [] = R at *
  obtain ⟨L2, md, x⟩ := R
  cases x with
  | ok q => injection h with _ h; cases h
  | error m =>
    injection h with h1 h2
    injection h2 with h2
    subst h1 h2
    exact ⟨rfl, this m rfl⟩
theorem make_no {T rt rm tb : Nat} {nd : List Nd} {L' : List Ent} {n : Nat} (s : ByteArray) (w : World) (ht : TreeAt w T rt rm tb nd) (hs : s.size ≤ 4294967296) (h : makeWay true (ents nd) s.data.toList = (L', .error n)) :
    Calls Tryz.prog 14 #[.pointer (some ⟨T, 0, none⟩), .string s] w fun r w' => r = .returned (.tuple #[.string ⟨#[]⟩, errV n]) ∧ ∃ nd', ents nd' = ents nd ∧ TreeAt w' T rt rm tb nd' ∧ Turned T rt rm nd nd' w w' :=
  (make_way s w ht hs).mono fun r w' ⟨h1, h2⟩ => by
    obtain ⟨rfl, _⟩ := makeWay_err h
    rw [h] at h1 h2
    exact ⟨h1, h2⟩
theorem place_ok {T rt rm tb : Nat} {nd : List Nd} {L' : List Ent} {p : List UInt8} (s : ByteArray) (w : World) (ht : TreeAt w T rt rm tb nd) (hs : s.size ≤ 4294967296) (h : makeWay false (ents nd) s.data.toList = (L', .ok p)) :
    Calls Tryz.prog 12 #[.pointer (some ⟨T, 0, none⟩), .string s] w fun r w' => r = .returned (.tuple #[.string (bs p), .nilIface]) ∧ ∃ nd', ents nd' = L' ∧ TreeAt w' T rt rm tb nd' ∧ Turned T rt rm nd nd' w w' :=
  (place_way s w ht hs).mono fun r w' ⟨h1, h2⟩ => by
    rw [h] at h1 h2
    exact ⟨h1, h2⟩
theorem place_no {T rt rm tb : Nat} {nd : List Nd} {L' : List Ent} {n : Nat} (s : ByteArray) (w : World) (ht : TreeAt w T rt rm tb nd) (hs : s.size ≤ 4294967296) (h : makeWay false (ents nd) s.data.toList = (L', .error n)) :
    Calls Tryz.prog 12 #[.pointer (some ⟨T, 0, none⟩), .string s] w fun r w' => r = .returned (.tuple #[.string ⟨#[]⟩, errV n]) ∧ ∃ nd', ents nd' = ents nd ∧ TreeAt w' T rt rm tb nd' ∧ Turned T rt rm nd nd' w w' :=
  (place_way s w ht hs).mono fun r w' ⟨h1, h2⟩ => by
    obtain ⟨rfl, _⟩ := makeWay_err h
    rw [h] at h1 h2
    exact ⟨h1, h2⟩
/-- a tree's list: its entries by name -/
theorem list_as {T rt rm tb : Nat} {nd : List Nd} {L : List Ent} {n : Nat} {W : World} (ht : TreeAt W T rt rm tb nd) (he : ents nd = L) (hn : n = L.length) :
    Calls Tryz.prog 11 #[.pointer (some ⟨T, 0, none⟩)] W fun e w' => ∃ o cap, e = .returned (.slice o n cap) ∧ NowAt w' T rt rm nd (.slice o n cap) L ∧ Below W.heap.size W w' := by
  subst hn
  subst he
  exact list_now ht
theorem place_size {L L' : List Ent} {way p : List UInt8} (hL : Good L) (h : makeWay false L way = (L', .ok p)) : p.length ≤ 255 := by
  unfold makeWay at h
  cases hR : makeF false (needF (pieces way).length 0) L [] (pieces way) 0 [] with
  | mk L1 R =>
    obtain ⟨md, x⟩ := R
    rw [hR] at h
    cases x with
    | error n => injection h with _ h; cases h
    | ok q =>
      injection h with e1 h; injection h with e2
      subst e1 e2
      have hok := makeF_ok _ _ _ _ _ _ hR
      obtain ⟨hx, hg⟩ := hok.ext hL
      by_cases h0 : q = []
      · rw [h0]; simp
      · cases hl : lookE L1 q with
        | some e => exact path_size hg hl
        | none => exact checkNo_small (hok.new hL (.inl rfl) h0 hl)
/-- a file is put where nothing is -/
theorem put_file {U ru mu tb : Nat} {nu : List Nd} {L : List Ent} {p : List UInt8} (w : World) (ht : TreeAt w U ru mu tb nu) (he : ents nu = L) (hp : p.length ≤ 255) (h0 : putNo L (fileE p) = 0) :
    Calls Tryz.prog 46 #[.pointer (some ⟨U, 0, none⟩), .agg #[.string (bs p), .int .i64 2, .int .i64 420, .string ⟨#[]⟩, .string ⟨#[]⟩]] w fun r w' => r = .returned .nilIface ∧ ∃ nu', ents nu' = laidL L (fileE p) ∧ TreeAt w' U ru mu tb nu' ∧ Turned U ru mu nu nu' w w' := by
  subst he
  refine (put_any (fileE p) w ht (by show (bs p).size < _; rw [bs_size]; omega) (show emp.size < _ by decide) (show emp.size < _ by decide)).mono fun r w' ⟨h1, nd', h2, h3, h4⟩ => ?_
  rw [h0] at h1
  refine ⟨h1, nd', ?_, h3, h4⟩
  rw [h2]
  unfold putL
  rw [if_pos h0]
end Go.Proofs.YtdkodedocklmdaaGreat
