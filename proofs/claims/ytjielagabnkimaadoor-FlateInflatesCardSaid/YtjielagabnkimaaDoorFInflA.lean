/- flate.Inflate: what stands while it runs, and its ways out through the deferred closure. -/
import Derived.Test.YtjielagabnkimaaDoorFCatch
import Derived.Test.YtjielagabnkimaaDoorFOut
import Derived.Test.YtjielagabnkimaaDoorFInf
import Derived.Recover
import Derived.Defers
set_option linter.unusedSimpArgs false
set_option linter.unusedVariables false
namespace Go.Proofs.YtjielagabnkimaaDoor
open Go.RowKit
def InfOut (w : World) (res : Except Nat (List UInt8 × Nat)) (e : Ending) (w' : World) : Prop := Below w.heap.size w w' ∧ match res with
  | .ok (o, took) => e = .returned (.tuple #[.string ⟨o.toArray⟩, .int .i64 (took : Int), .nilIface])
  | .error no => e = .returned (.tuple #[.string ⟨#[]⟩, .int .i64 0, .iface 55 (.int .i64 (no : Int))])
/-- the results' variables, untouched, and what lay below -/
structure InfLow (w W : World) (M T K E : Nat) (most : Int) : Prop where
  m : Boxed W M 3 (.int .i64 most)
  t : Boxed W T 9 (.string ⟨#[]⟩)
  k : Boxed W K 3 (.int .i64 0)
  e : Boxed W E 30 .nilIface
  low : Below M w W
  o : M < T ∧ T < K ∧ K < E
theorem InfLow.keeps {w W W' : World} {M T K E : Nat} {most : Int} {ok : Nat → Obj → Prop} (h : InfLow w W M T K E most) (hk : Keeps ok W W') (hok : ∀ k o, k ≤ E → W.heap[k]? = some o → ok k o) : InfLow w W' M T K E most := by
  obtain ⟨h1, h2, h3⟩ := h.o
  exact ⟨hk.boxed h.m (hok _ _ (by omega) h.m), hk.boxed h.t (hok _ _ (by omega) h.t), hk.boxed h.k (hok _ _ (by omega) h.k), hk.boxed h.e (hok _ _ (by omega) h.e), ⟨hk.os.trans h.low.os, hk.tape.trans h.low.tape, hk.output.trans h.low.output, Nat.le_trans h.low.size hk.size, fun k hkM => by
    have hkW : k < W.heap.size := by have := h.m.lt; omega
    have hb := h.low.block k hkM
    rw [← hb]
    have he : W.heap[k]? = some W.heap[k] := Array.getElem?_eq_getElem hkW
    rw [he]
    exact hk.block k _ he (hok k _ (by omega) he)⟩, h.o⟩
/-- the whole state of a round -/
structure InfAt (w W : World) (M T K E R O base : Nat) (s : ByteArray) (most : Int) (out : List UInt8) (r : List Bool) : Prop where
  l : InfLow w W M T K E most
  src : SrcAt W R s r
  out : OutAt W O base out
  o : E < R ∧ R < O ∧ O < base
theorem InfAt.keeps {w W W' : World} {M T K E R O base : Nat} {s : ByteArray} {most : Int} {out : List UInt8} {r r' : List Bool} {ok : Nat → Obj → Prop} (h : InfAt w W M T K E R O base s most out r) (hk : Keeps ok W W') (hS : SrcAt W' R s r')
    (hok : ∀ k o, W.heap[k]? = some o → k ≠ R → ok k o) : InfAt w W' M T K E R O base s most out r' := by
  obtain ⟨h1, h2, h3⟩ := h.o
  refine ⟨h.l.keeps hk (fun k o hkE he => hok k o he (by omega)), hS, ?_, h.o⟩
  obtain ⟨ov, hb, hr⟩ := h.out
  have hlt := hb.lt
  refine ⟨ov, hk.boxed hb (hok _ _ hb (by omega)), ⟨hr.1, ?_⟩⟩
  rcases hr.2 with h2 | ⟨g, cap, cur, rfl, hb2, hg, h3⟩
  · exact .inl h2
  · exact .inr ⟨g, cap, cur, rfl, hb2, hk.block g _ hg (hok g _ hg (by omega)), h3⟩
theorem InfAt.bits {w W W' : World} {M T K E R O base : Nat} {s : ByteArray} {most : Int} {out : List UInt8} {r r' : List Bool} (h : InfAt w W M T K E R O base s most out r) (hS : SrcAt W' R s r') (hk : Keeps (notAt R) W W') : InfAt w W' M T K E R O base s most out r' :=
  h.keeps hk hS (fun k o _ hn => hn)
theorem InfAt.put {w W W' : World} {M T K E R O base : Nat} {s : ByteArray} {most : Int} {out out' : List UInt8} {r : List Bool} (h : InfAt w W M T K E R O base s most out r) (hO : OutAt W' O base out') (hk : Keeps (okOut O base) W W') : InfAt w W' M T K E R O base s most out' r := by
  obtain ⟨h1, h2, h3⟩ := h.o
  exact ⟨h.l.keeps hk (fun k o hkE _ => ⟨by omega, .inl (by omega)⟩), h.src.keeps hk (fun _ => ⟨by omega, .inl (by omega)⟩), hO, h.o⟩
theorem InfAt.low {w W W' : World} {M T K E R O base : Nat} {s : ByteArray} {most : Int} {out : List UInt8} {r : List Bool} {ok : Nat → Obj → Prop} (h : InfAt w W M T K E R O base s most out r) (hk : Keeps ok W W') (hok : ∀ k o, k < R → ok k o) : InfLow w W' M T K E most :=
  h.l.keeps hk (fun k o hkE _ => hok k o (by have := h.o.1; omega))
/-- the frame behind all -/
def infD (T K E : Nat) : List Deferred := [{ target := .fn (.func 33) #[.pointer (some ⟨T, 0, none⟩), .pointer (some ⟨K, 0, none⟩), .pointer (some ⟨E, 0, none⟩)], args := #[] }]
theorem inf_results (tmps : Array Value) (T K E : Nat) (W : World) (vt vk ve : Value) (h4 : tmps.getD 4 undef = .pointer (some ⟨T, 0, none⟩)) (h5 : tmps.getD 5 undef = .pointer (some ⟨K, 0, none⟩)) (h6 : tmps.getD 6 undef = .pointer (some ⟨E, 0, none⟩))
    (ht : Boxed W T 9 vt) (hk : Boxed W K 3 vk) (he : Boxed W E 30 ve) :
    (results Tryd.f16 tmps).run Tryd.prog W = .ok (.tuple #[vt, vk, ve]) W := by
  have h4' : tmps[4]?.getD undef = .pointer (some ⟨T, 0, none⟩) := by simpa using h4
  have h5' : tmps[5]?.getD undef = .pointer (some ⟨K, 0, none⟩) := by simpa using h5
  have h6' : tmps[6]?.getD undef = .pointer (some ⟨E, 0, none⟩) := by simpa using h6
  have c1 := ht.cell
  have c2 := hk.cell
  have c3 := he.cell
  simp [results, Tryd.results16, h4', h5', h6', asAddr, go_sem, c1, c2, c3]
end Go.Proofs.YtjielagabnkimaaDoor
