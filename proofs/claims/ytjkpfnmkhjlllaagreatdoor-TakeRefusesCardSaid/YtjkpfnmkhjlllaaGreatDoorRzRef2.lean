/- the document's own: new ones; gates; a hold that is loaded with nothing. -/
import Derived.Test.YtjkpfnmkhjlllaaGreatDoorRzRef1
set_option linter.unusedVariables false
set_option linter.unusedSimpArgs false
open Go Go.Rz
set_option maxRecDepth 4000
namespace Go.Rz
theorem sp_ref1_Shelves {B : Base} {n : Int} : True → Fn PP B N.rosref1_Shelves [.int .i64 n] [] (fun v L => ∃ p : Nat, v = .pointer (some ⟨p, 0, none⟩) ∧ L = [pts p 0 [.int .i64 (min (max n 0) 200), .slice none 0 0]]) := by
  intro _
  refine Fn_of N.rosref1_Shelves_f rfl rfl fun fr => ?_
  try dsimp only [List.append_eq, List.cons_append, List.nil_append]
  repeat' (first | refine T_seq ?_ | refine T_regionR Tt (by kernel_rfl) ?_ | refine W_go Tt rfl ?_ | refine W_nil ?_ | refine T_ret ?_ | with_reducible refine R_then ?_ | with_reducible refine R_norm ?_ | refine A_arr Tt ?_ | refine A_max Tt ?_ | refine A_min Tt ?_ | (refine A_box Tt ?_; intro b) | fail)
  (change bodyQ PP _ [fr] _ _ _ _ _; refine ⟨rfl, _, _, _, (.tmp .nil), ⟨_, rfl, rfl⟩, takeS⟩)
theorem sp_ref10_Holds {B : Base} {node most : Int} : True → Fn PP B N.rosref10_Holds [.int .i64 node, .int .i64 most] [] (fun v L => ∃ (b p : Nat), v = .pointer (some ⟨b, 0, none⟩) ∧
    L = [pts b 0 (hdC ⟨node, min (max most 0) 200, 0, none, 0, [], p, false, 0, 0, .slice none 0 0⟩), pts p 0 [.int .i64 (min (max most 0) 200), .slice none 0 0]]) := by
  intro _
  refine Fn_of N.rosref10_Holds_f rfl rfl fun fr => ?_
  try dsimp only [List.append_eq, List.cons_append, List.nil_append]
  repeat' (first | refine T_seq ?_ | refine T_regionR Tt (by kernel_rfl) ?_ | refine W_go Tt rfl ?_ | refine W_nil ?_ | refine T_ret ?_ | with_reducible refine R_then ?_ | with_reducible refine R_norm ?_ | refine A_ldPts Tt ?_ | refine A_ldSl Tt ?_ | refine A_arr Tt ?_ | refine A_el Tt ?_ | refine A_el1 Tt ?_ | refine A_el2 Tt ?_ | (refine A_box Tt ?_; intro b) | (refine A_call Tt N.rosref1_Shelves_is (sp_ref1_Shelves) (trivial) ?_; rintro v L ⟨p, rfl, rfl⟩ <;> dsimp only [List.cons_append, List.nil_append]) | fail)
  (change bodyQ PP _ [fr] _ _ _ _ _; refine ⟨rfl, _, _, _, (.tmp .nil), ⟨_, _, rfl, rfl⟩, takeS⟩)
end Go.Rz

