/- give and take: what they are made of; letters. -/
import Derived.Test.YtjkpfnmkhjlllaaGreatDoorRzGate1
set_option linter.unusedVariables false
set_option linter.unusedSimpArgs false
open Go Go.Rz
set_option maxRecDepth 4000
namespace Go.Rz
/-- A letter. -/
structure Lt where
  kind : Int
  src : Int
  to : Int
  id : Int
  op : Int := 0
  key : ByteArray := ByteArray.empty
  val : ByteArray := ByteArray.empty
  upto : ByteArray := ByteArray.empty
  most : Int := 0
  err : Int := 0
  tval : ByteArray := ByteArray.empty
  titems : Value := .slice none 0 0
  more : Bool := false
  next : ByteArray := ByteArray.empty
  tnode : Int := 0
  f : Int := 0
  t : Int := 0
  ep : Int := 0
  items : Value := .slice none 0 0
  n : Int := 0
  node : Int := 0
def ltC (l : Lt) : List Value := [.int .i64 l.kind, .int .i64 l.src, .int .i64 l.to, .int .i64 l.id, .int .i64 l.op, .string l.key, .string l.val, .string l.upto, .int .i64 l.most, .int .i64 l.err, .string l.tval, l.titems, .bool l.more, .string l.next, .int .i64 l.tnode, .int .u64 l.f, .int .u64 l.t, .int .i64 l.ep, l.items, .int .i64 l.n, .int .i64 l.node]
def ltV (l : Lt) : Value := .agg #[.int .i64 l.kind, .int .i64 l.src, .int .i64 l.to, .int .i64 l.id, .int .i64 l.op, .string l.key, .string l.val, .string l.upto, .int .i64 l.most, .int .i64 l.err, .string l.tval, l.titems, .bool l.more, .string l.next, .int .i64 l.tnode, .int .u64 l.f, .int .u64 l.t, .int .i64 l.ep, l.items, .int .i64 l.n, .int .i64 l.node]
structure Gv where
  h : Value
  f : Int
  t : Int
  ep : Int
  me : Int
  to : Int
  id : Int
  step : Int
  chunks : Value
  went : Int
def gvC (g : Gv) : List Value := [g.h, .int .u64 g.f, .int .u64 g.t, .int .i64 g.ep, .int .i64 g.me, .int .i64 g.to, .int .i64 g.id, .int .i64 g.step, g.chunks, .int .i64 g.went]
structure Tk where
  h : Value
  f : Int
  t : Int
  ep : Int
  n : Int
  me : Int
  src : Int
  id : Int
  step : Int
  chunks : Int
  l : Value
def tkC (g : Tk) : List Value := [g.h, .int .u64 g.f, .int .u64 g.t, .int .i64 g.ep, .int .i64 g.n, .int .i64 g.me, .int .i64 g.src, .int .i64 g.id, .int .i64 g.step, .int .i64 g.chunks, g.l]
theorem sp_give_letter {B : Base} {p : Nat} {g : Gv} {k : Int} : True → Fn PP B N.give_Give_letter [.pointer (some ⟨p, 0, none⟩), .int .i64 k] [pts p 0 (gvC g)]
    (fun v L => v = ltV { kind := k, src := g.me, to := g.to, id := g.id } ∧ L = [pts p 0 (gvC g)]) := by
  intro _
  refine Fn_of N.give_Give_letter_f rfl rfl fun fr => ?_
  try dsimp only [List.append_eq, List.cons_append, List.nil_append]
  repeat' (first | refine T_seq ?_ | refine T_regionR Tt (by kernel_rfl) ?_ | refine T_drawR Tt N.give_Give_letter_d mixed (by kernel_rfl) ?_ | refine W_go Tt rfl ?_ | refine W_nil ?_ | refine T_ret ?_ | with_reducible refine R_then ?_ | with_reducible refine R_norm ?_ | refine A_ldPts Tt ?_ | refine A_ldSl Tt ?_ | refine A_arr Tt ?_ | refine A_el Tt ?_ | refine A_el1 Tt ?_ | refine A_el2 Tt ?_ | refine A_store Tt ?_ | (refine A_alloc Tt ?_; intro b) | fail)
  (change bodyQ PP _ [fr] _ _ _ _ _; refine ⟨rfl, _, _, _, (ResL_cell Tt .nil), ⟨rfl, rfl⟩, takeS⟩)
theorem sp_give_Step {B : Base} {p : Nat} {g : Gv} : True → Fn PP B N.give_Give_Step [.pointer (some ⟨p, 0, none⟩)] [pts p 0 (gvC g)] (fun v L => v = .int .i64 g.step ∧ L = [pts p 0 (gvC g)]) := by
  intro _
  refine Fn_of N.give_Give_Step_f rfl rfl fun fr => ?_
  try dsimp only [List.append_eq, List.cons_append, List.nil_append]
  repeat' (first | refine T_seq ?_ | refine T_regionR Tt (by kernel_rfl) ?_ | refine W_go Tt rfl ?_ | refine W_nil ?_ | refine T_cond_true rfl ?_ | refine T_cond_false rfl ?_ | refine T_skip ?_ | refine T_ret ?_ | with_reducible refine R_then ?_ | with_reducible refine R_norm ?_ | refine A_cmpT Tt ?_ | refine A_cmpF Tt ?_ | (refine A_cmp Tt ?_ ?_ <;> intro hc) | refine A_ldPts Tt ?_ | refine A_ldSl Tt ?_ | refine A_el Tt ?_ | refine A_el1 Tt ?_ | refine A_el2 Tt ?_ | fail)
  (change bodyQ PP _ [fr] _ _ _ _ _; refine ⟨rfl, _, _, _, (.tmp .nil), ⟨rfl, rfl⟩, takeS⟩)
theorem sp_take_Step {B : Base} {p : Nat} {g : Tk} : True → Fn PP B N.take_Take_Step [.pointer (some ⟨p, 0, none⟩)] [pts p 0 (tkC g)] (fun v L => v = .int .i64 g.step ∧ L = [pts p 0 (tkC g)]) := by
  intro _
  refine Fn_of N.take_Take_Step_f rfl rfl fun fr => ?_
  try dsimp only [List.append_eq, List.cons_append, List.nil_append]
  repeat' (first | refine T_seq ?_ | refine T_regionR Tt (by kernel_rfl) ?_ | refine W_go Tt rfl ?_ | refine W_nil ?_ | refine T_cond_true rfl ?_ | refine T_cond_false rfl ?_ | refine T_skip ?_ | refine T_ret ?_ | with_reducible refine R_then ?_ | with_reducible refine R_norm ?_ | refine A_cmpT Tt ?_ | refine A_cmpF Tt ?_ | (refine A_cmp Tt ?_ ?_ <;> intro hc) | refine A_ldPts Tt ?_ | refine A_ldSl Tt ?_ | refine A_el Tt ?_ | refine A_el1 Tt ?_ | refine A_el2 Tt ?_ | fail)
  (change bodyQ PP _ [fr] _ _ _ _ _; refine ⟨rfl, _, _, _, (.tmp .nil), ⟨rfl, rfl⟩, takeS⟩)
theorem sp_take_tell {B : Base} {p : Nat} {g : Tk} {k n : Int} : True → Fn PP B N.take_Take_tell [.pointer (some ⟨p, 0, none⟩), .int .i64 k, .int .i64 n] [pts p 0 (tkC g)]
    (fun v L => ∃ b : Nat, v = .slice (some ⟨b, 0, none⟩) 1 1 ∧ L = [sl (some ⟨b, 0, none⟩) 1 1 21 (flat ltC [{ kind := k, src := g.me, to := g.src, id := g.id, n := n }]), pts p 0 (tkC g)]) := by
  intro _
  refine Fn_of N.take_Take_tell_f rfl rfl fun fr => ?_
  try dsimp only [List.append_eq, List.cons_append, List.nil_append]
  repeat' (first | refine T_seq ?_ | refine T_regionR Tt (by kernel_rfl) ?_ | refine T_drawR Tt N.take_Take_tell_d mixed (by kernel_rfl) ?_ | refine W_go Tt rfl ?_ | refine W_nil ?_ | refine T_ret ?_ | with_reducible refine R_then ?_ | with_reducible refine R_norm ?_ | refine A_ldPts Tt ?_ | refine A_ldSl Tt ?_ | refine A_arr Tt ?_ | refine A_el Tt ?_ | refine A_el1 Tt ?_ | refine A_el2 Tt ?_ | (refine A_mk Tt ?_; intro b) | fail)
  (change bodyQ PP _ [fr] _ _ _ _ _; refine ⟨rfl, _, _, _, (.tmp .nil), ⟨_, rfl, rfl⟩, takeS⟩)
end Go.Rz

