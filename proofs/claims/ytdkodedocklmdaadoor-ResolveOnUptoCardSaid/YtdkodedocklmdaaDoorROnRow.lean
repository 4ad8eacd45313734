/- An argument that is a way of two parts. -/
import Derived.Test.YtdkodedocklmdaaDoorRRow
set_option linter.unusedVariables false
namespace Go.Proofs.YtdkodedocklmdaaDoor
open Go.ChangeShapes Go.WideShapes Go.ChangeAt Go.RowKit
theorem Tryd.cellsBool : Tryd.prog.cellsOf 4 = 1 := by kernel_rfl
theorem Tryd.cellsOn : Tryd.prog.cellsOf 35 = 3 := by kernel_rfl
set_option maxRecDepth 100000 in
theorem open_on {H : Type} {enc : TypeId × Value → H} {W : World} {base : Nat} {v : Value} {d : DataW H} {p : List MemPlace} (hok : Value.okWide Tryd.prog W .any base 35 v)
    (h : DataW.Trod enc Tryd.prog W 0 (fun _ => true) true 35 v d p) (hk : Rows.uptoBulk d ≤ 1048576) :
    ∃ a c l, v = .agg #[.string a, .string c, .bool l] ∧ p = [] ∧ a.size + 1 ≤ 1048576 ∧ c.size + 1 ≤ 1048576 := by
  obtain ⟨cs, rfl, hsz⟩ := okWide_struct Tryd.underlying35 hok
  obtain ⟨fuel, hf⟩ := h
  obtain ⟨xs, n, rfl, hx, hlen, hxl, hf⟩ := DataW.trod_struct Tryd.underlying35 hf
  have h0 : DataW.trod enc Tryd.prog W 0 (fun _ => true) true n 9 ((cs.toList.drop 0).take (Tryd.prog.cellsOf 9)) = xs[0]? := hf 0 _ rfl
  have h1 : DataW.trod enc Tryd.prog W 0 (fun _ => true) true n 9 ((cs.toList.drop 1).take (Tryd.prog.cellsOf 9)) = xs[1]? := hf 1 _ rfl
  have h2 : DataW.trod enc Tryd.prog W 0 (fun _ => true) true n 4 ((cs.toList.drop 2).take (Tryd.prog.cellsOf 4)) = xs[2]? := hf 2 _ rfl
  rw [Tryd.cellsStr] at h0 h1
  rw [Tryd.cellsBool] at h2
  rw [Tryd.cellsOn] at hsz
  obtain ⟨cl⟩ := cs
  injection hx with hx1 hx2
  subst hx1
  match cl, hsz, xs, hxl, h0, h1, h2, hx2, hk with
  | [c0, c1, c2], _, [x0, x1, x2], _, h0, h1, h2, hx2, hk =>
    obtain ⟨s0, e0, d0, _⟩ := DataW.trod_string (x := x0) Tryd.underlying9 h0
    obtain ⟨s1, e1, d1, _⟩ := DataW.trod_string (x := x1) Tryd.underlying9 h1
    obtain ⟨s2, e2, d2⟩ := DataW.trod_bool (x := x2) Tryd.underlying4 h2
    injection (show [c0] = [_] from e0) with e0
    injection (show [c1] = [_] from e1) with e1
    injection (show [c2] = [_] from e2) with e2
    rw [d0, d1, d2] at hk hx2
    have hk2 : s0.size + 1 + (s1.size + 1 + 1) + 1 ≤ 1048576 := by simpa [Rows.uptoBulk, Rows.uptoBulkAll] using hk
    exact ⟨s0, s1, s2, by rw [e0, e1, e2], hx2, by omega, by omega⟩
theorem recOn : Tryd.prog.readableRec 35 = true := by kernel_rfl
theorem rowOn : (35 : TypeId) < Tryd.prog.types.size := of_decide_eq_true (by kernel_rfl)
set_option maxRecDepth 100000 in
theorem on_again {H : Type} {enc : TypeId × Value → H} {W W' : World} {v : Value} {d : DataW H} {p : List MemPlace} {sp : Nat → Bool} (h : DataW.Trod enc Tryd.prog W 0 (fun _ => true) true 35 v d p) (hp : p = []) :
    DataW.Trod enc Tryd.prog W' 0 sp true 35 v d p :=
  WideElems.Trod_stays laidOut recOn rowOn h (fun x hx => by rw [hp] at hx; cases hx) (fun x hx => by rw [hp] at hx; cases hx)
end Go.Proofs.YtdkodedocklmdaaDoor
