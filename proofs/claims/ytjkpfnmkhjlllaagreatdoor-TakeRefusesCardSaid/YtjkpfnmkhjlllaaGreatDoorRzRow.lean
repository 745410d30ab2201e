/- From a contract to a row: what all rows of laws share. -/
import Derived.Test.YtjkpfnmkhjlllaaGreatDoorRzKinds
import Derived.ProofKit
import Derived.OpenShut
import Derived.LaidMore
import Derived.Lay
import Derived.Stop.Joined
import Derived.ChangeOld
import Derived.Below
import Derived.ChangeSame
set_option linter.unusedVariables false
set_option linter.unusedSimpArgs false
namespace Go.Rz
open Go.ChangeShapes Go.WideShapes Go.ChangeAt Go.RowKit
set_option linter.unusedVariables false
theorem fn_walk {P : Program} {f : FuncId} {args : List Value} (h : ∀ B : Base, Fn P B f args [] (fun v L => v = .bool true ∧ L = [])) (w : World) :
    Calls P f args.toArray w fun e w' => e = .returned (.bool true) ∧ Below w.heap.size w w' := by
  have hs : Sat ⟨w.heap.size, w⟩ w ([] ++ []) := ⟨Below.refl _ _, Nat.le_refl _, Heap.emp, ⟨fun _ _ _ e => (by cases e), trivial⟩⟩
  refine (h ⟨w.heap.size, w⟩ [] w hs).mono ?_
  rintro e w' ⟨v, L, rfl, ⟨rfl, rfl⟩, hs'⟩
  exact ⟨rfl, hs'.below⟩
/-- A struct of two numbers that came in. -/
theorem open_two {P : Program} {H : Type} {enc : TypeId × Value → H} {W : World} {base base' : Nat} {sp : Nat → Bool} {hd : Bool} {t : TypeId} {k0 k1 : IntKind} {f0 f1 : Field} {v : Value} {d : DataW H} {ps : List MemPlace}
    (ht : P.underlying t = some (.struct #[f0, f1])) (h0 : P.underlying f0.type = some (.int k0)) (h1 : P.underlying f1.type = some (.int k1)) (c0 : P.cellsOf f0.type = 1) (c1 : P.cellsOf f1.type = 1) (o0 : f0.offset = 0) (o1 : f1.offset = 1) (hc : P.cellsOf t = 2)
    (hok : Value.okWide P W .any base t v) (hT : DataW.Trod enc P W base' sp hd t v d ps) : ∃ a b, v = .agg #[.int k0 a, .int k1 b] ∧ (Lit.int k0 a).wf = true ∧ (Lit.int k1 b).wf = true := by
  obtain ⟨cs, rfl, hsz⟩ := okWide_struct ht hok
  obtain ⟨fuel, hf⟩ := hT
  rw [hc] at hsz
  obtain ⟨l⟩ := cs
  match l, hsz with
  | [x, y], _ =>
    obtain ⟨y0, y1, n, -, -, e0, e1⟩ := trod_struct2 ht hf
    rw [o0, c0] at e0
    rw [o1, c1] at e1
    obtain ⟨a, ea, -, wa⟩ := DataW.trod_int h0 e0
    obtain ⟨b, eb, -, wb⟩ := DataW.trod_int h1 e1
    have hx : [x] = [.int k0 a] := ea
    have hy : [y] = [.int k1 b] := eb
    cases hx; cases hy
    exact ⟨a, b, rfl, wa, wb⟩
end Go.Rz
