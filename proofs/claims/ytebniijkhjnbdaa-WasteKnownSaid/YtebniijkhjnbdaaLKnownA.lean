/- The examples of WasteKnown: what Look answers at each. -/
import Derived.Test.YtebniijkhjnbdaaLWorks
set_option linter.unusedSimpArgs false
set_option linter.unusedVariables false
set_option exponentiation.threshold 3000
namespace Go.Proofs.Ytebniijkhjnbdaa
open Go.RowKit Go.Maps
open Go.Lib hiding intOf size_eq

def oddF : Chg := ⟨⟨#[113]⟩, true, ⟨#[]⟩, 0, 0, ⟨#[120, 121, 122]⟩, ⟨#[]⟩⟩
def litF : Chg := ⟨⟨#[112]⟩, false, ⟨#[111, 116, 104, 101, 114]⟩, 0, 0, ⟨#[49, 50]⟩, ⟨#[]⟩⟩
theorem row_open {W : World} {base : Nat} {T : TypeId} {v : Value} {L : List LostB} (h : W.ownsRow base T 3 v L.length (L.flatMap lostC)) (hne : L.length ≠ 0) : ∃ (g c : Nat), v = .slice (some ⟨g, 0, none⟩) L.length c ∧ L.length ≤ c ∧ c ≤ maxLen ∧ ∀ (i : Nat) e, L[i]? = some e → ∀ (j : Nat) x, (lostC e)[j]? = some x → W.cell? ⟨g, i * 3 + j, none⟩ = some x := by
  have hit := items_of_row lostC_len h
  obtain ⟨o, c, rfl, h1, h2, h3⟩ := hit
  obtain ⟨_, h4⟩ := h
  rcases h4 with ⟨e, _⟩ | ⟨g, cap, cur, e, hg, _⟩
  · injection e with e1 e2 e3
    exact absurd e2 hne
  · injection e with e1 e2 e3
    subst e1
    refine ⟨g, c, rfl, h1, h2, fun i e he j x hx => ?_⟩
    obtain ⟨a, ha, hal, hc⟩ := h3 i e he
    injection ha with ha
    subst ha
    have := hc j x hx
    rw [gadd_new, gadd_new, Nat.zero_add] at this
    exact this
theorem nil_look (W : World) : Calls Try.prog 10 #[.slice none 0 0] W fun r w' => ∃ (me sp : Nat) (o : Option Addr) (c : Nat), r = .returned (.agg #[.int .i64 0, .int .i64 0, .float .f64 4607182418800017408, .float .f64 me, .float .f64 sp, .slice o 0 c]) ∧ NaNb me ∧ NaNb sp ∧ Below W.heap.size W w' := by
  refine (look_any (.slice none 0 0) [] W ⟨none, 0, rfl, Nat.le_refl _, by simp, fun i L h => by cases h⟩ (by decide) (by decide) (by decide) (by decide)).mono ?_
  rintro r w' ⟨vw, sc, me, sp, rfl, hv, hrow, hb⟩
  obtain ⟨o, c, rfl⟩ := row_formG hrow
  have e : sc = 4607182418800017408 := hv.sc0 rfl
  subst e
  exact ⟨me, sp, o, c, rfl, hv.me0 rfl, hv.sp0 rfl, hb⟩
def exB : List (List Chg) := [[]]
theorem exB_t : totalR (flatC exB) = 0 := by decide +kernel
theorem exB_l : leastR (flatC exB) = 0 := by decide +kernel
theorem exB_s : exB.map sizeC = [0] := by decide +kernel
theorem exB_f : flatC exB = [] := rfl
theorem exB_w : worstR (flatC exB) = [] := by rw [exB_f]; rfl
theorem exB_v {sc me sp : Nat} (h : LookV 0 0 [0] sc me sp) : sc = 4607182418800017408 ∧ me = 0 ∧ sp = 0 := by
  have h1 := h.sc0 rfl
  have h2 := h.me1 (by decide)
  obtain ⟨q, h3, h4⟩ := h.sp1 (by decide)
  have e2 : Fl.F.div (Fl.fl 0) (Fl.fl [0].length) = some 0 := by decide +kernel
  rw [e2] at h2
  injection h2 with h2
  subst h1 h2
  have e3 : Fl.F.div (sumF 0 [0]) (Fl.fl [0].length) = some 0 := by decide +kernel
  rw [e3] at h3
  injection h3 with h3
  subst h3
  have e4 : Fl.F.sqrt 0 = some 0 := by decide +kernel
  rw [e4] at h4
  injection h4 with h4
  exact ⟨rfl, rfl, h4.symm⟩
theorem exB_look (v : Value) (W : World) (h : DeltasAt W v exB) : Calls Try.prog 10 #[v] W fun r w' => ∃ (ow : Option Addr) (c : Nat), r = .returned (.agg #[.int .i64 0, .int .i64 0, .float .f64 4607182418800017408, .float .f64 0, .float .f64 0, .slice ow 0 c]) ∧ Below W.heap.size W w' := by
  refine (look_any v exB W h (by decide) (by decide) (by rw [exB_t]; decide) (by decide)).mono ?_
  rintro r w' ⟨vw, sc, me, sp, rfl, hv, hrow, hb⟩
  rw [exB_t, exB_l, exB_s] at hv
  obtain ⟨rfl, rfl, rfl⟩ := exB_v hv
  rw [exB_w] at hrow
  obtain ⟨o, c, rfl⟩ := row_formG hrow
  exact ⟨o, c, by rw [exB_t, exB_l]; rfl, hb⟩
theorem exB_at (W : World) (b : Nat) (h : W.heap[b]? = some (.cells #[.slice none 0 0] 38 (0, 0))) : DeltasAt W (.slice (some ⟨b, 0, none⟩) 1 1) exB := by
  refine lists_of_block (T := 38) (vs := [.slice none 0 0]) (LL := exB) h rfl (by unfold maxLen; decide) fun i v L hv hL => ?_
  match i with
  | 0 => injection hv with hv; injection hL with hL; subst hv hL; exact ItemsAt.nil _
  | i + 1 => cases hv
def exC : List (List Chg) := [[mkLaid ⟨#[97, 47, 98]⟩ 3, mkLaid ⟨#[99]⟩ 1], [mkGone ⟨#[97]⟩]]
theorem exC_t : totalR (flatC exC) = 4 := by decide +kernel
theorem exC_l : leastR (flatC exC) = 1 := by decide +kernel
theorem exC_s : exC.map sizeC = [4, 0] := by decide +kernel
theorem exC_f : flatC exC = [⟨[97, 47, 98], false, 3⟩, ⟨[99], false, 1⟩, ⟨[97], true, 0⟩] := rfl
theorem exC_w : worstR (flatC exC) = [⟨[97, 47, 98], 1, 3⟩] := by rw [exC_f]; rfl
theorem exC_v {sc me sp : Nat} (h : LookV 4 1 [4, 0] sc me sp) : sc = 4598175219545276416 ∧ me = 4611686018427387904 ∧ sp = 4611686018427387904 := by
  have h1 := h.sc1 (by decide)
  have h2 := h.me1 (by decide)
  obtain ⟨q, h3, h4⟩ := h.sp1 (by decide)
  have e1 : Fl.F.div (Fl.fl 1) (Fl.fl 4) = some 4598175219545276416 := by decide +kernel
  rw [e1] at h1
  injection h1 with h1
  have e2 : Fl.F.div (Fl.fl 4) (Fl.fl [4, 0].length) = some 4611686018427387904 := by decide +kernel
  rw [e2] at h2
  injection h2 with h2
  subst h1 h2
  have e3 : Fl.F.div (sumF 4611686018427387904 [4, 0]) (Fl.fl [4, 0].length) = some 4616189618054758400 := by decide +kernel
  rw [e3] at h3
  injection h3 with h3
  subst h3
  have e4 : Fl.F.sqrt 4616189618054758400 = some 4611686018427387904 := by decide +kernel
  rw [e4] at h4
  injection h4 with h4
  exact ⟨rfl, rfl, h4.symm⟩
theorem exC_look (v : Value) (W : World) (h : DeltasAt W v exC) : Calls Try.prog 10 #[v] W fun r w' => ∃ (g c : Nat), r = .returned (.agg #[.int .i64 4, .int .i64 1, .float .f64 4598175219545276416, .float .f64 4611686018427387904, .float .f64 4611686018427387904, .slice (some ⟨g, 0, none⟩) 1 c]) ∧ 1 ≤ c ∧ c ≤ maxLen ∧ w'.cell? ⟨g, 0, none⟩ = some (.string ⟨#[97, 47, 98]⟩) ∧ w'.cell? ⟨g, 1, none⟩ = some (.int .i64 1) ∧ w'.cell? ⟨g, 2, none⟩ = some (.int .i64 3) ∧ Below W.heap.size W w' := by
  refine (look_any v exC W h (by decide) (by decide) (by rw [exC_t]; decide) (by decide)).mono ?_
  rintro r w' ⟨vw, sc, me, sp, rfl, hv, hrow, hb⟩
  rw [exC_t, exC_l, exC_s] at hv
  obtain ⟨rfl, rfl, rfl⟩ := exC_v hv
  rw [exC_w] at hrow
  obtain ⟨g, c, rfl, h1, h2, h3⟩ := row_open (L := [⟨⟨#[97, 47, 98]⟩, 1, 3⟩]) hrow (by decide)
  exact ⟨g, c, by rw [exC_t, exC_l]; rfl, h1, h2, h3 0 _ rfl 0 _ rfl, h3 0 _ rfl 1 _ rfl, h3 0 _ rfl 2 _ rfl, hb⟩
theorem exC_at {z1 z3 : ByteArray} (hz1 : z1 = bs (zer 1)) (hz3 : z3 = bs (zer 3)) (W : World) (b1 b2 b : Nat) (k1 : W.heap[b1]? = some (.cells #[.string ⟨#[97, 47, 98]⟩, .bool false, .string ⟨#[97, 47, 98]⟩, .int .i64 2, .int .i64 420, .string z3, .string ⟨#[]⟩, .string ⟨#[99]⟩, .bool false, .string ⟨#[99]⟩, .int .i64 2, .int .i64 420, .string z1, .string ⟨#[]⟩] 43 (0, 0))) (k2 : W.heap[b2]? = some (.cells #[.string ⟨#[97]⟩, .bool true, .string ⟨#[]⟩, .int .i64 0, .int .i64 0, .string ⟨#[]⟩, .string ⟨#[]⟩] 43 (0, 0))) (k : W.heap[b]? = some (.cells #[.slice (some ⟨b1, 0, none⟩) 2 2, .slice (some ⟨b2, 0, none⟩) 1 1] 38 (0, 0))) : DeltasAt W (.slice (some ⟨b, 0, none⟩) 2 2) exC := by
  subst hz1 hz3
  have i1 : ItemsAt chgC 7 W (.slice (some ⟨b1, 0, none⟩) 2 2) [mkLaid ⟨#[97, 47, 98]⟩ 3, mkLaid ⟨#[99]⟩ 1] := items_of_block (L := [mkLaid ⟨#[97, 47, 98]⟩ 3, mkLaid ⟨#[99]⟩ 1]) (T := 43) chgC_len (by rw [k1]; rfl) (by unfold maxLen; decide)
  have i2 : ItemsAt chgC 7 W (.slice (some ⟨b2, 0, none⟩) 1 1) [mkGone ⟨#[97]⟩] := items_of_block (L := [mkGone ⟨#[97]⟩]) (T := 43) chgC_len (by rw [k2]; rfl) (by unfold maxLen; decide)
  refine lists_of_block (T := 38) (vs := [.slice (some ⟨b1, 0, none⟩) 2 2, .slice (some ⟨b2, 0, none⟩) 1 1]) (LL := exC) k rfl (by unfold maxLen; decide) fun i v L hv hL => ?_
  match i with
  | 0 => injection hv with hv; injection hL with hL; subst hv hL; exact i1
  | 1 => injection hv with hv; injection hL with hL; subst hv hL; exact i2
  | i + 2 => cases hv
def exD : List (List Chg) := [[mkGone ⟨#[97]⟩, mkLaid ⟨#[97]⟩ 5], [mkLaid ⟨#[97]⟩ 5], [mkGone ⟨#[122]⟩]]
theorem exD_t : totalR (flatC exD) = 10 := by decide +kernel
theorem exD_l : leastR (flatC exD) = 5 := by decide +kernel
theorem exD_s : exD.map sizeC = [5, 5, 0] := by decide +kernel
theorem exD_f : flatC exD = [⟨[97], true, 0⟩, ⟨[97], false, 5⟩, ⟨[97], false, 5⟩, ⟨[122], true, 0⟩] := rfl
theorem exD_w : worstR (flatC exD) = [⟨[97], 2, 5⟩] := by rw [exD_f]; rfl
theorem exD_v {sc me sp : Nat} (h : LookV 10 5 [5, 5, 0] sc me sp) : sc = 4602678819172646912 ∧ me = 4614688418178968235 ∧ sp = 4612489961860455552 := by
  have h1 := h.sc1 (by decide)
  have h2 := h.me1 (by decide)
  obtain ⟨q, h3, h4⟩ := h.sp1 (by decide)
  have e1 : Fl.F.div (Fl.fl 5) (Fl.fl 10) = some 4602678819172646912 := by decide +kernel
  rw [e1] at h1
  injection h1 with h1
  have e2 : Fl.F.div (Fl.fl 10) (Fl.fl [5, 5, 0].length) = some 4614688418178968235 := by decide +kernel
  rw [e2] at h2
  injection h2 with h2
  subst h1 h2
  have e3 : Fl.F.div (sumF 4614688418178968235 [5, 5, 0]) (Fl.fl [5, 5, 0].length) = some 4617941017909846927 := by decide +kernel
  rw [e3] at h3
  injection h3 with h3
  subst h3
  have e4 : Fl.F.sqrt 4617941017909846927 = some 4612489961860455552 := by decide +kernel
  rw [e4] at h4
  injection h4 with h4
  exact ⟨rfl, rfl, h4.symm⟩
theorem exD_look (v : Value) (W : World) (h : DeltasAt W v exD) : Calls Try.prog 10 #[v] W fun r w' => ∃ (g c : Nat), r = .returned (.agg #[.int .i64 10, .int .i64 5, .float .f64 4602678819172646912, .float .f64 4614688418178968235, .float .f64 4612489961860455552, .slice (some ⟨g, 0, none⟩) 1 c]) ∧ 1 ≤ c ∧ c ≤ maxLen ∧ w'.cell? ⟨g, 0, none⟩ = some (.string ⟨#[97]⟩) ∧ w'.cell? ⟨g, 1, none⟩ = some (.int .i64 2) ∧ w'.cell? ⟨g, 2, none⟩ = some (.int .i64 5) ∧ Below W.heap.size W w' := by
  refine (look_any v exD W h (by decide) (by decide) (by rw [exD_t]; decide) (by decide)).mono ?_
  rintro r w' ⟨vw, sc, me, sp, rfl, hv, hrow, hb⟩
  rw [exD_t, exD_l, exD_s] at hv
  obtain ⟨rfl, rfl, rfl⟩ := exD_v hv
  rw [exD_w] at hrow
  obtain ⟨g, c, rfl, h1, h2, h3⟩ := row_open (L := [⟨⟨#[97]⟩, 2, 5⟩]) hrow (by decide)
  exact ⟨g, c, by rw [exD_t, exD_l]; rfl, h1, h2, h3 0 _ rfl 0 _ rfl, h3 0 _ rfl 1 _ rfl, h3 0 _ rfl 2 _ rfl, hb⟩
theorem exD_at {z5 : ByteArray} (hz5 : z5 = bs (zer 5)) (W : World) (b1 b2 b3 b : Nat) (k1 : W.heap[b1]? = some (.cells #[.string ⟨#[97]⟩, .bool true, .string ⟨#[]⟩, .int .i64 0, .int .i64 0, .string ⟨#[]⟩, .string ⟨#[]⟩, .string ⟨#[97]⟩, .bool false, .string ⟨#[97]⟩, .int .i64 2, .int .i64 420, .string z5, .string ⟨#[]⟩] 43 (0, 0))) (k2 : W.heap[b2]? = some (.cells #[.string ⟨#[97]⟩, .bool false, .string ⟨#[97]⟩, .int .i64 2, .int .i64 420, .string z5, .string ⟨#[]⟩] 43 (0, 0))) (k3 : W.heap[b3]? = some (.cells #[.string ⟨#[122]⟩, .bool true, .string ⟨#[]⟩, .int .i64 0, .int .i64 0, .string ⟨#[]⟩, .string ⟨#[]⟩] 43 (0, 0))) (k : W.heap[b]? = some (.cells #[.slice (some ⟨b1, 0, none⟩) 2 2, .slice (some ⟨b2, 0, none⟩) 1 1, .slice (some ⟨b3, 0, none⟩) 1 1] 38 (0, 0))) : DeltasAt W (.slice (some ⟨b, 0, none⟩) 3 3) exD := by
  subst hz5
  have i1 : ItemsAt chgC 7 W (.slice (some ⟨b1, 0, none⟩) 2 2) [mkGone ⟨#[97]⟩, mkLaid ⟨#[97]⟩ 5] := items_of_block (L := [mkGone ⟨#[97]⟩, mkLaid ⟨#[97]⟩ 5]) (T := 43) chgC_len (by rw [k1]; rfl) (by unfold maxLen; decide)
  have i2 : ItemsAt chgC 7 W (.slice (some ⟨b2, 0, none⟩) 1 1) [mkLaid ⟨#[97]⟩ 5] := items_of_block (L := [mkLaid ⟨#[97]⟩ 5]) (T := 43) chgC_len (by rw [k2]; rfl) (by unfold maxLen; decide)
  have i3 : ItemsAt chgC 7 W (.slice (some ⟨b3, 0, none⟩) 1 1) [mkGone ⟨#[122]⟩] := items_of_block (L := [mkGone ⟨#[122]⟩]) (T := 43) chgC_len (by rw [k3]; rfl) (by unfold maxLen; decide)
  refine lists_of_block (T := 38) (vs := [.slice (some ⟨b1, 0, none⟩) 2 2, .slice (some ⟨b2, 0, none⟩) 1 1, .slice (some ⟨b3, 0, none⟩) 1 1]) (LL := exD) k rfl (by unfold maxLen; decide) fun i v L hv hL => ?_
  match i with
  | 0 => injection hv with hv; injection hL with hL; subst hv hL; exact i1
  | 1 => injection hv with hv; injection hL with hL; subst hv hL; exact i2
  | 2 => injection hv with hv; injection hL with hL; subst hv hL; exact i3
  | i + 3 => cases hv
def exE : List (List Chg) := [[mkLaid ⟨#[98]⟩ 1, mkLaid ⟨#[97, 46, 120]⟩ 1, mkLaid ⟨#[97, 47, 121]⟩ 1], [mkGone ⟨#[]⟩]]
theorem exE_t : totalR (flatC exE) = 3 := by decide +kernel
theorem exE_l : leastR (flatC exE) = 0 := by decide +kernel
theorem exE_s : exE.map sizeC = [3, 0] := by decide +kernel
theorem exE_f : flatC exE = [⟨[98], false, 1⟩, ⟨[97, 46, 120], false, 1⟩, ⟨[97, 47, 121], false, 1⟩, ⟨[], true, 0⟩] := rfl
theorem exE_w : worstR (flatC exE) = [⟨[97, 47, 121], 1, 1⟩, ⟨[97, 46, 120], 1, 1⟩, ⟨[98], 1, 1⟩] := by rw [exE_f]; rfl
theorem exE_v {sc me sp : Nat} (h : LookV 3 0 [3, 0] sc me sp) : sc = 0 ∧ me = 4609434218613702656 ∧ sp = 4609434218613702656 := by
  have h1 := h.sc1 (by decide)
  have h2 := h.me1 (by decide)
  obtain ⟨q, h3, h4⟩ := h.sp1 (by decide)
  have e1 : Fl.F.div (Fl.fl 0) (Fl.fl 3) = some 0 := by decide +kernel
  rw [e1] at h1
  injection h1 with h1
  have e2 : Fl.F.div (Fl.fl 3) (Fl.fl [3, 0].length) = some 4609434218613702656 := by decide +kernel
  rw [e2] at h2
  injection h2 with h2
  subst h1 h2
  have e3 : Fl.F.div (sumF 4609434218613702656 [3, 0]) (Fl.fl [3, 0].length) = some 4612248968380809216 := by decide +kernel
  rw [e3] at h3
  injection h3 with h3
  subst h3
  have e4 : Fl.F.sqrt 4612248968380809216 = some 4609434218613702656 := by decide +kernel
  rw [e4] at h4
  injection h4 with h4
  exact ⟨rfl, rfl, h4.symm⟩
theorem exE_look (v : Value) (W : World) (h : DeltasAt W v exE) : Calls Try.prog 10 #[v] W fun r w' => ∃ (g c : Nat), r = .returned (.agg #[.int .i64 3, .int .i64 0, .float .f64 0, .float .f64 4609434218613702656, .float .f64 4609434218613702656, .slice (some ⟨g, 0, none⟩) 3 c]) ∧ 3 ≤ c ∧ c ≤ maxLen ∧ w'.cell? ⟨g, 0, none⟩ = some (.string ⟨#[97, 47, 121]⟩) ∧ w'.cell? ⟨g, 1, none⟩ = some (.int .i64 1) ∧ w'.cell? ⟨g, 2, none⟩ = some (.int .i64 1) ∧ w'.cell? ⟨g, 3, none⟩ = some (.string ⟨#[97, 46, 120]⟩) ∧ w'.cell? ⟨g, 4, none⟩ = some (.int .i64 1) ∧ w'.cell? ⟨g, 5, none⟩ = some (.int .i64 1) ∧ w'.cell? ⟨g, 6, none⟩ = some (.string ⟨#[98]⟩) ∧ w'.cell? ⟨g, 7, none⟩ = some (.int .i64 1) ∧ w'.cell? ⟨g, 8, none⟩ = some (.int .i64 1) ∧ Below W.heap.size W w' := by
  refine (look_any v exE W h (by decide) (by decide) (by rw [exE_t]; decide) (by decide)).mono ?_
  rintro r w' ⟨vw, sc, me, sp, rfl, hv, hrow, hb⟩
  rw [exE_t, exE_l, exE_s] at hv
  obtain ⟨rfl, rfl, rfl⟩ := exE_v hv
  rw [exE_w] at hrow
  obtain ⟨g, c, rfl, h1, h2, h3⟩ := row_open (L := [⟨⟨#[97, 47, 121]⟩, 1, 1⟩, ⟨⟨#[97, 46, 120]⟩, 1, 1⟩, ⟨⟨#[98]⟩, 1, 1⟩]) hrow (by decide)
  exact ⟨g, c, by rw [exE_t, exE_l]; rfl, h1, h2, h3 0 _ rfl 0 _ rfl, h3 0 _ rfl 1 _ rfl, h3 0 _ rfl 2 _ rfl, h3 1 _ rfl 0 _ rfl, h3 1 _ rfl 1 _ rfl, h3 1 _ rfl 2 _ rfl, h3 2 _ rfl 0 _ rfl, h3 2 _ rfl 1 _ rfl, h3 2 _ rfl 2 _ rfl, hb⟩
theorem exE_at {z1 : ByteArray} (hz1 : z1 = bs (zer 1)) (W : World) (b1 b2 b : Nat) (k1 : W.heap[b1]? = some (.cells #[.string ⟨#[98]⟩, .bool false, .string ⟨#[98]⟩, .int .i64 2, .int .i64 420, .string z1, .string ⟨#[]⟩, .string ⟨#[97, 46, 120]⟩, .bool false, .string ⟨#[97, 46, 120]⟩, .int .i64 2, .int .i64 420, .string z1, .string ⟨#[]⟩, .string ⟨#[97, 47, 121]⟩, .bool false, .string ⟨#[97, 47, 121]⟩, .int .i64 2, .int .i64 420, .string z1, .string ⟨#[]⟩] 43 (0, 0))) (k2 : W.heap[b2]? = some (.cells #[.string ⟨#[]⟩, .bool true, .string ⟨#[]⟩, .int .i64 0, .int .i64 0, .string ⟨#[]⟩, .string ⟨#[]⟩] 43 (0, 0))) (k : W.heap[b]? = some (.cells #[.slice (some ⟨b1, 0, none⟩) 3 3, .slice (some ⟨b2, 0, none⟩) 1 1] 38 (0, 0))) : DeltasAt W (.slice (some ⟨b, 0, none⟩) 2 2) exE := by
  subst hz1
  have i1 : ItemsAt chgC 7 W (.slice (some ⟨b1, 0, none⟩) 3 3) [mkLaid ⟨#[98]⟩ 1, mkLaid ⟨#[97, 46, 120]⟩ 1, mkLaid ⟨#[97, 47, 121]⟩ 1] := items_of_block (L := [mkLaid ⟨#[98]⟩ 1, mkLaid ⟨#[97, 46, 120]⟩ 1, mkLaid ⟨#[97, 47, 121]⟩ 1]) (T := 43) chgC_len (by rw [k1]; rfl) (by unfold maxLen; decide)
  have i2 : ItemsAt chgC 7 W (.slice (some ⟨b2, 0, none⟩) 1 1) [mkGone ⟨#[]⟩] := items_of_block (L := [mkGone ⟨#[]⟩]) (T := 43) chgC_len (by rw [k2]; rfl) (by unfold maxLen; decide)
  refine lists_of_block (T := 38) (vs := [.slice (some ⟨b1, 0, none⟩) 3 3, .slice (some ⟨b2, 0, none⟩) 1 1]) (LL := exE) k rfl (by unfold maxLen; decide) fun i v L hv hL => ?_
  match i with
  | 0 => injection hv with hv; injection hL with hL; subst hv hL; exact i1
  | 1 => injection hv with hv; injection hL with hL; subst hv hL; exact i2
  | i + 2 => cases hv
def exF : List (List Chg) := [[oddF, litF, mkLaid ⟨#[112]⟩ 1], [mkGone ⟨#[112, 47]⟩, mkGone ⟨#[97, 112]⟩, mkLaid ⟨#[112, 47, 120]⟩ 4, mkGone ⟨#[112]⟩]]
theorem exF_t : totalR (flatC exF) = 7 := by decide +kernel
theorem exF_l : leastR (flatC exF) = 0 := by decide +kernel
theorem exF_s : exF.map sizeC = [3, 4] := by decide +kernel
theorem exF_f : flatC exF = [⟨[113], true, 3⟩, ⟨[112], false, 2⟩, ⟨[112], false, 1⟩, ⟨[112, 47], true, 0⟩, ⟨[97, 112], true, 0⟩, ⟨[112, 47, 120], false, 4⟩, ⟨[112], true, 0⟩] := rfl
theorem exF_w : worstR (flatC exF) = [⟨[112, 47, 120], 1, 4⟩, ⟨[112], 2, 3⟩] := by rw [exF_f]; rfl
theorem exF_v {sc me sp : Nat} (h : LookV 7 0 [3, 4] sc me sp) : sc = 0 ∧ me = 4615063718147915776 ∧ sp = 4602678819172646912 := by
  have h1 := h.sc1 (by decide)
  have h2 := h.me1 (by decide)
  obtain ⟨q, h3, h4⟩ := h.sp1 (by decide)
  have e1 : Fl.F.div (Fl.fl 0) (Fl.fl 7) = some 0 := by decide +kernel
  rw [e1] at h1
  injection h1 with h1
  have e2 : Fl.F.div (Fl.fl 7) (Fl.fl [3, 4].length) = some 4615063718147915776 := by decide +kernel
  rw [e2] at h2
  injection h2 with h2
  subst h1 h2
  have e3 : Fl.F.div (sumF 4615063718147915776 [3, 4]) (Fl.fl [3, 4].length) = some 4598175219545276416 := by decide +kernel
  rw [e3] at h3
  injection h3 with h3
  subst h3
  have e4 : Fl.F.sqrt 4598175219545276416 = some 4602678819172646912 := by decide +kernel
  rw [e4] at h4
  injection h4 with h4
  exact ⟨rfl, rfl, h4.symm⟩
theorem exF_look (v : Value) (W : World) (h : DeltasAt W v exF) : Calls Try.prog 10 #[v] W fun r w' => ∃ (g c : Nat), r = .returned (.agg #[.int .i64 7, .int .i64 0, .float .f64 0, .float .f64 4615063718147915776, .float .f64 4602678819172646912, .slice (some ⟨g, 0, none⟩) 2 c]) ∧ 2 ≤ c ∧ c ≤ maxLen ∧ w'.cell? ⟨g, 0, none⟩ = some (.string ⟨#[112, 47, 120]⟩) ∧ w'.cell? ⟨g, 1, none⟩ = some (.int .i64 1) ∧ w'.cell? ⟨g, 2, none⟩ = some (.int .i64 4) ∧ w'.cell? ⟨g, 3, none⟩ = some (.string ⟨#[112]⟩) ∧ w'.cell? ⟨g, 4, none⟩ = some (.int .i64 2) ∧ w'.cell? ⟨g, 5, none⟩ = some (.int .i64 3) ∧ Below W.heap.size W w' := by
  refine (look_any v exF W h (by decide) (by decide) (by rw [exF_t]; decide) (by decide)).mono ?_
  rintro r w' ⟨vw, sc, me, sp, rfl, hv, hrow, hb⟩
  rw [exF_t, exF_l, exF_s] at hv
  obtain ⟨rfl, rfl, rfl⟩ := exF_v hv
  rw [exF_w] at hrow
  obtain ⟨g, c, rfl, h1, h2, h3⟩ := row_open (L := [⟨⟨#[112, 47, 120]⟩, 1, 4⟩, ⟨⟨#[112]⟩, 2, 3⟩]) hrow (by decide)
  exact ⟨g, c, by rw [exF_t, exF_l]; rfl, h1, h2, h3 0 _ rfl 0 _ rfl, h3 0 _ rfl 1 _ rfl, h3 0 _ rfl 2 _ rfl, h3 1 _ rfl 0 _ rfl, h3 1 _ rfl 1 _ rfl, h3 1 _ rfl 2 _ rfl, hb⟩
theorem exF_at {z1 z4 : ByteArray} (hz1 : z1 = bs (zer 1)) (hz4 : z4 = bs (zer 4)) (W : World) (b1 b2 b : Nat) (k1 : W.heap[b1]? = some (.cells #[.string ⟨#[113]⟩, .bool true, .string ⟨#[]⟩, .int .i64 0, .int .i64 0, .string ⟨#[120, 121, 122]⟩, .string ⟨#[]⟩, .string ⟨#[112]⟩, .bool false, .string ⟨#[111, 116, 104, 101, 114]⟩, .int .i64 0, .int .i64 0, .string ⟨#[49, 50]⟩, .string ⟨#[]⟩, .string ⟨#[112]⟩, .bool false, .string ⟨#[112]⟩, .int .i64 2, .int .i64 420, .string z1, .string ⟨#[]⟩] 43 (0, 0))) (k2 : W.heap[b2]? = some (.cells #[.string ⟨#[112, 47]⟩, .bool true, .string ⟨#[]⟩, .int .i64 0, .int .i64 0, .string ⟨#[]⟩, .string ⟨#[]⟩, .string ⟨#[97, 112]⟩, .bool true, .string ⟨#[]⟩, .int .i64 0, .int .i64 0, .string ⟨#[]⟩, .string ⟨#[]⟩, .string ⟨#[112, 47, 120]⟩, .bool false, .string ⟨#[112, 47, 120]⟩, .int .i64 2, .int .i64 420, .string z4, .string ⟨#[]⟩, .string ⟨#[112]⟩, .bool true, .string ⟨#[]⟩, .int .i64 0, .int .i64 0, .string ⟨#[]⟩, .string ⟨#[]⟩] 43 (0, 0))) (k : W.heap[b]? = some (.cells #[.slice (some ⟨b1, 0, none⟩) 3 3, .slice (some ⟨b2, 0, none⟩) 4 4] 38 (0, 0))) : DeltasAt W (.slice (some ⟨b, 0, none⟩) 2 2) exF := by
  subst hz1 hz4
  have i1 : ItemsAt chgC 7 W (.slice (some ⟨b1, 0, none⟩) 3 3) [oddF, litF, mkLaid ⟨#[112]⟩ 1] := items_of_block (L := [oddF, litF, mkLaid ⟨#[112]⟩ 1]) (T := 43) chgC_len (by rw [k1]; rfl) (by unfold maxLen; decide)
  have i2 : ItemsAt chgC 7 W (.slice (some ⟨b2, 0, none⟩) 4 4) [mkGone ⟨#[112, 47]⟩, mkGone ⟨#[97, 112]⟩, mkLaid ⟨#[112, 47, 120]⟩ 4, mkGone ⟨#[112]⟩] := items_of_block (L := [mkGone ⟨#[112, 47]⟩, mkGone ⟨#[97, 112]⟩, mkLaid ⟨#[112, 47, 120]⟩ 4, mkGone ⟨#[112]⟩]) (T := 43) chgC_len (by rw [k2]; rfl) (by unfold maxLen; decide)
  refine lists_of_block (T := 38) (vs := [.slice (some ⟨b1, 0, none⟩) 3 3, .slice (some ⟨b2, 0, none⟩) 4 4]) (LL := exF) k rfl (by unfold maxLen; decide) fun i v L hv hL => ?_
  match i with
  | 0 => injection hv with hv; injection hL with hL; subst hv hL; exact i1
  | 1 => injection hv with hv; injection hL with hL; subst hv hL; exact i2
  | i + 2 => cases hv
end Go.Proofs.Ytebniijkhjnbdaa
