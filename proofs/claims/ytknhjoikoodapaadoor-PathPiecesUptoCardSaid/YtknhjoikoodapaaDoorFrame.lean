/- What PathPieces needs besides: a frame that leaves some blocks out; a range that is left by a break; stratakit.Pick; what lasts through its four loops. -/
import Derived.Test.YtknhjoikoodapaaDoorLaws
set_option linter.unusedSimpArgs false
set_option linter.unusedVariables false
namespace Go.Proofs.YtknhjoikoodapaaDoor
open Go.RowKit Go.Shelf
open Go.Lib hiding intOf
attribute [local go_sem] Oper.semAt_some

/-- all that lay in S lies in W as it lay, but for these blocks -/
def KeepX (S : World) (ex : List Nat) (W : World) : Prop := S.heap.size ≤ W.heap.size ∧ ∀ i, i < S.heap.size → i ∉ ex → W.heap[i]? = S.heap[i]?
theorem KeepX.refl (S : World) (ex : List Nat) : KeepX S ex S := ⟨Nat.le_refl _, fun _ _ _ => rfl⟩
theorem KeepX.own {β : Type} (S : World) (ex : List Nat) : OwnFrom S.heap.size (fun (_ : β) W => KeepX S ex W) := by
  intro s W W' row hs hg hr
  refine ⟨Nat.le_trans hs.1 hg.size, fun i hi he => (hg.block i (Nat.lt_of_lt_of_le hi hs.1) (fun e => ?_)).trans (hs.2 i hi he)⟩
  have := (hr i e.symm).1
  omega
theorem KeepX.setCell {S W : World} {ex : List Nat} (h : KeepX S ex W) {p : Addr} (hp : p.block ∈ ex) (v : Value) : KeepX S ex (W.setCell p v) :=
  ⟨by simpa using h.1, fun i hi he => (Below.heap_setCell W p v i (fun e => he (e ▸ hp))).trans (h.2 i hi he)⟩
theorem KeepX.boxed {S W : World} {ex : List Nat} (h : KeepX S ex W) {B : Nat} {t : TypeId} {v : Value} (hb : Boxed S B t v) (he : B ∉ ex) : Boxed W B t v := (h.2 B hb.lt he).trans hb
theorem KeepX.mark {S W : World} {ex : List Nat} (h : KeepX S ex W) {D : Nat} {o : Obj} (hD : S.heap[D]? = some o) (he : D ∉ ex) : W.heap[D]? = some o := (h.2 D (Array.getElem?_eq_some_iff.1 hD).1 he).trans hD
theorem KeepX.cell {S W : World} {ex : List Nat} (h : KeepX S ex W) {p : Addr} (hp : p.block < S.heap.size) (he : p.block ∉ ex) : W.cell? p = S.cell? p := World.cell?_of_block (w := S) (h.2 p.block hp he)

/-- A range over a function in a block of its own, its rounds left by 'break' alone: behind it stands Fin, whichever way. -/
theorem wpIn_range_break {P : Program} {α : Type} {g : Operand} {ps : Array Tmp} {assign body : Code} {id : Nat} {Q : Exit → Act → World → Prop} {a : Act} {w : World}
    {gf : Nat} {lb : Array Value} (hg : a.eval g = .func (.func gf) #[] lb) (eg : ∀ args w, (callFunc gf args).run P w = .ok (.enter gf args) w)
    {encs : α → Array Value} {Kp : World → World → Prop} {L : List α} {w0 : World} (hseq : SeqL P gf lb encs Kp L w0)
    (hKr : ∀ W, Kp W W) (hKt : ∀ {A B C : World}, Kp A B → Kp B C → Kp A C) (hKb : ∀ (W : World) (l : Nat) (o o' : Obj), w.heap.size ≤ l → W.heap[l]? = some o → o.isCells = false → o.isWalk = false → Kp W (W.putObj l o')) (hb0 : Below w0.heap.size w0 w) (hps : ∀ x, (encs x).size = ps.size)
    (I : List α → World → Prop) (Fin : World → Prop) (hI : OwnFrom w.heap.size I) (hF : OwnFrom w.heap.size (fun (_ : List α) W => Fin W)) (h0 : I [] w) (a₁ : α → Act) (hIF : ∀ W, I L W → Fin W)
    (hassign : ∀ (l : Nat) (x : α) (W : World) (K : Act → World → Prop), K (a₁ x) W →
      assign.wpIn (Fence.wide.inRound l) 0 P (Exit.then K (fun _ _ _ => False)) { tmps := (ps.zip (encs x)).foldl (fun t (p, v) => t.setIfInBounds p v) a.tmps, defers := [] } W)
    (hbody : ∀ (l : Nat) (pre : List α) (x : α) (rest : List α) (W : World), w.heap.size ≤ l → (∃ r, W.heap[l]? = some (.loop r)) → L = pre ++ x :: rest → I pre W →
      body.wpIn (Fence.wide.inRound l) 0 P (ownPostG w.heap.size Kp I (fun c _ W => c = .exit id ∧ Fin W) (pre ++ [x]) W) (a₁ x) W)
    (hk : ∀ (D : Nat) (W : World), w.heap.size ≤ D → Fin W → W.heap[D]? = some (.deferred (some [])) → Exit.inBlock id Q .normal { a with defers := { target := .collected D, args := #[] } :: a.defers } W) :
    (Code.rangeFunc g ps assign body).wpIn Fence.wide 0 P (Exit.inBlock id Q) a w := by
  refine wpIn_range_flat hg eg hseq hKr hKt hKb hb0 hps I (fun c _ W => c = .exit id ∧ Fin W) hI (fun c => OwnFrom.and (ownFrom_pure _ _) hF) h0 a₁ hassign hbody (fun D W hD hi hK => hk D W hD (hIF W hi) hK) ?_
  rintro D c pre x rest W hD hL ⟨rfl, hf⟩ hK
  refine wpIn_exit ?_
  have h := hk D W hD hf hK
  simpa [Exit.inBlock] using h

set_option maxRecDepth 100000 in
theorem pick_any (k n : Int) (w : World) (hn : 1 ≤ n) : Calls Tryd.prog 33 #[.int .i64 k, .int .i64 n] w fun e w' => (∃ m : Int, e = .returned (.int .i64 m)) ∧ w = w' := by
  go_enter Tryd.func33, Tryd.ntmps33
  go_wp2
  all_goals go_ret
  all_goals exact ⟨⟨_, rfl⟩, rfl⟩

/-- a row of texts, empty or not -/
theorem texts_any {w : World} {base : Nat} {v : Value} {L : List (List UInt8)} (h : Texts w base v L) : ∃ o cap, v = .slice o L.length cap ∧ ∀ (k : Nat) x, L[k]? = some x → ∃ g, o = some ⟨g, 0, none⟩ ∧ base ≤ g ∧ g < w.heap.size ∧ w.cell? ⟨g, k, none⟩ = some (.string (bs x)) := by
  by_cases hn : L = []
  · subst hn
    rcases h.2 with ⟨rfl, h0⟩ | ⟨g, cap, cur, rfl, hb, hg, _⟩
    · exact ⟨none, 0, rfl, fun k x hx => by simp at hx⟩
    · exact ⟨_, cap, rfl, fun k x hx => by simp at hx⟩
  · obtain ⟨g, cap, rfl, h1, h2, h3⟩ := texts_form h hn
    exact ⟨_, cap, rfl, fun k x hx => ⟨g, rfl, h1, h2, h3 k x hx⟩⟩

/-- what lasts through the four loops: below the counter's block b -/
structure PEnv (w : World) (s : ByteArray) (m : Int) (Bn Br Bw Bm Bs b : Nat) (o o2 : Option Addr) (c c2 : Nat) (L L2 : List (List UInt8)) (W : World) : Prop where
  n : Boxed W Bn 3 (.int .i64 m)
  r : Boxed W Br 4 (.bool false)
  want : Boxed W Bw 37 (.slice o L.length c)
  more : Boxed W Bm 37 (.slice o2 L2.length c2)
  str : Boxed W Bs 9 (.string s)
  c1 : ∀ (k : Nat) x, L[k]? = some x → ∃ g, o = some ⟨g, 0, none⟩ ∧ g < b ∧ W.cell? ⟨g, k, none⟩ = some (.string (bs x))
  c2 : ∀ (k : Nat) x, L2[k]? = some x → ∃ g, o2 = some ⟨g, 0, none⟩ ∧ g < b ∧ W.cell? ⟨g, k, none⟩ = some (.string (bs x))
  ln : Bn < b
  lr : Br < b
  lw : Bw < b
  lm : Bm < b
  ls : Bs < b
  lb : b ≤ W.heap.size
  below : Below w.heap.size w W
theorem PEnv.keep {w : World} {s : ByteArray} {m : Int} {Bn Br Bw Bm Bs b : Nat} {o o2 : Option Addr} {c c2 : Nat} {L L2 : List (List UInt8)} {S W : World} (h : PEnv w s m Bn Br Bw Bm Bs b o o2 c c2 L L2 S)
    {x : Nat} (hx : b ≤ x) (hk : KeepX S [x] W) (hb : Below w.heap.size w W) : PEnv w s m Bn Br Bw Bm Bs b o o2 c c2 L L2 W where
  n := hk.boxed h.n (by have := h.ln; simp; omega)
  r := hk.boxed h.r (by have := h.lr; simp; omega)
  want := hk.boxed h.want (by have := h.lw; simp; omega)
  more := hk.boxed h.more (by have := h.lm; simp; omega)
  str := hk.boxed h.str (by have := h.ls; simp; omega)
  c1 := fun k y hy => by
    obtain ⟨g, e, hg, hc⟩ := h.c1 k y hy
    exact ⟨g, e, hg, (hk.cell (p := ⟨g, k, none⟩) (Nat.lt_of_lt_of_le hg h.lb) (by simp; omega)).trans hc⟩
  c2 := fun k y hy => by
    obtain ⟨g, e, hg, hc⟩ := h.c2 k y hy
    exact ⟨g, e, hg, (hk.cell (p := ⟨g, k, none⟩) (Nat.lt_of_lt_of_le hg h.lb) (by simp; omega)).trans hc⟩
  ln := h.ln
  lr := h.lr
  lw := h.lw
  lm := h.lm
  ls := h.ls
  lb := Nat.le_trans h.lb hk.1
  below := hb
theorem KeepX.alloc (S : World) (ex : List Nat) (o : Obj) : KeepX S ex (S.alloc o) := ⟨by simp, fun i hi _ => Below.heap_alloc S o i hi⟩
theorem KeepX.trans {S W V : World} {ex : List Nat} (h : KeepX S ex W) (k : KeepX W ex V) : KeepX S ex V := ⟨Nat.le_trans h.1 k.1, fun i hi he => (k.2 i (Nat.lt_of_lt_of_le hi h.1) he).trans (h.2 i hi he)⟩
theorem KeepX.setCell0 (S : World) (x : Nat) (v : Value) : KeepX S [x] (S.setCell ⟨x, 0, none⟩ v) := (KeepX.refl S [x]).setCell (by simp) v
end Go.Proofs.YtknhjoikoodapaaDoor
