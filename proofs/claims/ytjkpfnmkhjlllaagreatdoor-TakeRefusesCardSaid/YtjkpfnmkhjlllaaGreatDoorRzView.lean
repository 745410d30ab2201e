/- view: what is known, part by part. -/
import Derived.Test.YtjkpfnmkhjlllaaGreatDoorRzLibPart
import Derived.Test.YtjkpfnmkhjlllaaGreatDoorRzHold2
import Derived.Test.YtjkpfnmkhjlllaaGreatDoorRzLess
import Derived.Test.YtjkpfnmkhjlllaaGreatDoorRzShelf1
set_option linter.unusedVariables false
set_option linter.unusedSimpArgs false
open Go Go.Rz
set_option maxRecDepth 4000
set_option maxHeartbeats 2000000
namespace Go.Rz
def placeN (L : List Pv) (x : Int) : Nat → Nat
  | 0 => 0
  | i + 1 => if ((L[i]?).getD ⟨0, 0, 0⟩).f ≤ x then i else placeN L x i
def placeL' (L : List Pv) (x : Int) : Nat := placeN L x L.length
theorem placeN_lt {L : List Pv} {x : Int} : ∀ {i : Nat}, 0 < i → placeN L x i < i
  | i + 1, _ => by
    unfold placeN
    split
    · omega
    · cases i with
      | zero => simp [placeN]
      | succ i => have := placeN_lt (L := L) (x := x) (i := i + 1) (by omega); omega
theorem placeN_le (L : List Pv) (x : Int) (i : Nat) : placeN L x i ≤ i := by
  cases i with
  | zero => simp [placeN]
  | succ i => exact Nat.le_of_lt (placeN_lt (by omega))
theorem sp_place {B : Base} {q : Nat} {a : Option Addr} {cap : Nat} {L : List Pv} {x : Int} : (wf a L.length cap ∧ L.length ≤ 100000) → Fn PP B N.view_View_place [.pointer (some ⟨q, 0, none⟩), .int .u64 x] [pts q 0 [.slice a L.length cap], sl a L.length cap 3 (flat pvC L)]
    (fun v M => v = .int .i64 (placeN L x L.length) ∧ M = [pts q 0 [.slice a L.length cap], sl a L.length cap 3 (flat pvC L)]) := by
  rintro ⟨hwf, hlen⟩
  refine Fn_of N.view_View_place_f rfl rfl fun fr => ?_
  try dsimp only [List.append_eq, List.cons_append, List.nil_append]
  repeat' (first | refine T_seq ?_ | refine T_regionR Tt (by kernel_rfl) ?_ | refine W_go Tt rfl ?_ | refine W_nil ?_ | refine T_cond_true rfl ?_ | refine T_cond_false rfl ?_ | refine T_skip ?_ | refine T_ret ?_ | refine T_exit ?_ | refine T_block ?_ | with_reducible refine R_block ?_ | with_reducible refine R_then ?_ | with_reducible refine R_norm ?_ | with_reducible refine R_exitEq ?_ | refine R_exitNe ?_ | with_reducible refine R_thenX ?_ | with_reducible refine R_scopeX ?_ | with_reducible refine R_blockN ?_ | refine A_cmpT Tt ?_ | refine A_cmpF Tt ?_ | (refine A_cmp Tt ?_ ?_ <;> intro hc) | refine A_ldPts Tt ?_ | refine A_ldSl Tt ?_ | refine S_ix Tt ?_ | refine S_ixA Tt ?_ | refine A_el Tt ?_ | refine A_el1 Tt ?_ | refine A_el2 Tt ?_ | refine A_store Tt ?_ | refine A_stEl Tt ?_ | (refine A_alloc Tt ?_; intro b) | fail)
  refine T_loopE (X := Nat) (fun i => [(0, .pointer (some ⟨q, 0, none⟩)), (1, .int .u64 x), (5, .int .i64 (placeN L x i)), (11, .slice a L.length cap), (12, .int .i64 L.length), (13, .int .i64 i)])
    (fun i => [pts q 0 [.slice a L.length cap], sl a L.length cap 3 (flat pvC L), fr]) (fun i => L.length + 1 - i) (fun i => i ≤ L.length) 0 (by omega) (by exact ⟨rfl, rfl, rfl, rfl, rfl, rfl, trivial⟩) takeS ?_
  rintro i d hi
  by_cases hlt : i < L.length
  · rcases hwf with ⟨rfl, h0, rfl⟩ | ⟨ib, off, rfl, hle⟩
    · omega
    obtain ⟨p, hp⟩ : ∃ x, L[i]? = some x := ⟨_, List.getElem?_eq_getElem hlt⟩
    have e1 : placeN L x (i + 1) = if p.f ≤ x then i else placeN L x i := by rw [placeN, hp]; rfl
    by_cases hx : p.f ≤ x
    · rw [if_pos hx] at e1
      repeat' (first | refine T_seq ?_ | refine T_regionR Tt (by kernel_rfl) ?_ | refine W_go Tt rfl ?_ | refine W_nil ?_ | refine T_cond_true rfl ?_ | refine T_cond_false rfl ?_ | refine T_skip ?_ | refine T_ret ?_ | refine T_exit ?_ | refine T_block ?_ | with_reducible refine R_block ?_ | with_reducible refine R_then ?_ | with_reducible refine R_norm ?_ | with_reducible refine R_exitEq ?_ | refine R_exitNe ?_ | with_reducible refine R_thenX ?_ | with_reducible refine R_scopeX ?_ | with_reducible refine R_blockN ?_ | refine A_cmpY Tt ?_ | refine A_cmpN Tt ?_ | (refine A_cmp Tt ?_ ?_ <;> intro hc) | refine A_ldPts Tt ?_ | refine A_ldSl Tt ?_ | refine S_ix Tt ?_ | refine S_ixA Tt ?_ | refine A_el Tt ?_ | refine A_el1 Tt ?_ | refine A_el2 Tt ?_ | refine A_store Tt ?_ | refine A_stEl Tt ?_ | (refine A_alloc Tt ?_; intro b) | fail)
      refine ⟨rfl, i + 1, by omega, by omega, ⟨rfl, rfl, ?_, rfl, rfl, inc_ok (by omega), trivial⟩, _, takeS⟩
      rw [e1]; rfl
    · rw [if_neg hx] at e1
      repeat' (first | refine T_seq ?_ | refine T_regionR Tt (by kernel_rfl) ?_ | refine W_go Tt rfl ?_ | refine W_nil ?_ | refine T_cond_true rfl ?_ | refine T_cond_false rfl ?_ | refine T_skip ?_ | refine T_ret ?_ | refine T_exit ?_ | refine T_block ?_ | with_reducible refine R_block ?_ | with_reducible refine R_then ?_ | with_reducible refine R_norm ?_ | with_reducible refine R_exitEq ?_ | refine R_exitNe ?_ | with_reducible refine R_thenX ?_ | with_reducible refine R_scopeX ?_ | with_reducible refine R_blockN ?_ | refine A_cmpY Tt ?_ | refine A_cmpN Tt ?_ | (refine A_cmp Tt ?_ ?_ <;> intro hc) | refine A_ldPts Tt ?_ | refine A_ldSl Tt ?_ | refine S_ix Tt ?_ | refine S_ixA Tt ?_ | refine A_el Tt ?_ | refine A_el1 Tt ?_ | refine A_el2 Tt ?_ | refine A_store Tt ?_ | refine A_stEl Tt ?_ | (refine A_alloc Tt ?_; intro b) | fail)
      refine ⟨rfl, i + 1, by omega, by omega, ⟨rfl, rfl, ?_, rfl, rfl, inc_ok (by omega), trivial⟩, _, takeS⟩
      rw [e1]; rfl
  · have hie : i = L.length := by omega
    subst hie
    repeat' (first | refine T_seq ?_ | refine T_regionR Tt (by kernel_rfl) ?_ | refine W_go Tt rfl ?_ | refine W_nil ?_ | refine T_cond_true rfl ?_ | refine T_cond_false rfl ?_ | refine T_skip ?_ | refine T_ret ?_ | refine T_exit ?_ | refine T_block ?_ | with_reducible refine R_block ?_ | with_reducible refine R_then ?_ | with_reducible refine R_norm ?_ | with_reducible refine R_exitEq ?_ | refine R_exitNe ?_ | with_reducible refine R_thenX ?_ | with_reducible refine R_scopeX ?_ | with_reducible refine R_blockN ?_ | refine A_cmpY Tt ?_ | refine A_cmpN Tt ?_ | (refine A_cmp Tt ?_ ?_ <;> intro hc) | refine A_ldPts Tt ?_ | refine A_ldSl Tt ?_ | refine S_ix Tt ?_ | refine S_ixA Tt ?_ | refine A_el Tt ?_ | refine A_el1 Tt ?_ | refine A_el2 Tt ?_ | refine A_store Tt ?_ | refine A_stEl Tt ?_ | (refine A_alloc Tt ?_; intro b) | fail)
    (change bodyQ PP _ [fr] _ _ _ _ _; refine ⟨rfl, _, _, _, (.tmp .nil), ⟨rfl, rfl⟩, takeS⟩)

def cut1 (L : List Pv) (x : Int) : List Pv := match L[placeN L x L.length]? with
  | some p => if p.f = x then L else L.take (placeN L x L.length + 1) ++ [⟨x, p.node, p.ep⟩] ++ L.drop (placeN L x L.length + 1)
  | none => L
/-- A part begins at a point. -/
def cutL (L : List Pv) (x : Int) : List Pv := cut1 (if L.length = 0 then [⟨0, -1, 0⟩] else L) x
def vwA (q : Nat) (a : Option Addr) (n cap : Nat) (us : List Value) : List HProp := [pts q 0 [.slice a n cap], sl a n cap 3 us]
theorem sp_cut {B : Base} {q : Nat} {a : Option Addr} {cap : Nat} {L : List Pv} {x : Int} : (wf a L.length cap ∧ L.length ≤ 100000) → Fn PP B N.view_View_cut [.pointer (some ⟨q, 0, none⟩), .int .u64 x] [pts q 0 [.slice a L.length cap], sl a L.length cap 3 (flat pvC L)]
    (fun v M => ∃ a' cap', wf a' (cutL L x).length cap' ∧ v = .tuple #[] ∧ M = [pts q 0 [.slice a' (cutL L x).length cap'], sl a' (cutL L x).length cap' 3 (flat pvC (cutL L x))]) := by
  rintro ⟨hwf, hlen⟩
  by_cases hnil : L.length = 0
  · have hL : L = [] := List.length_eq_zero_iff.1 hnil
    subst hL
    have hp0 : placeN [⟨0, -1, 0⟩] x [(⟨0, -1, 0⟩ : Pv)].length = 0 := by simp [placeN]
    have hpl := fun b => sp_place (B := B) (q := q) (a := some ⟨b, 0, none⟩) (cap := 1) (L := [⟨0, -1, 0⟩]) (x := x) ⟨.inr ⟨b, 0, rfl, Nat.le_refl _⟩, by simp⟩
    rw [hp0] at hpl
    by_cases hx : (0 : Int) = x
    · have hc : cutL [] x = [⟨0, -1, 0⟩] := by unfold cutL; rw [if_pos (by simp : ([] : List Pv).length = 0)]; unfold cut1; rw [hp0]; simp [hx]
      rw [hc]
      refine Fn_of N.view_View_cut_f rfl rfl fun fr => ?_
      try dsimp only [List.append_eq, List.cons_append, List.nil_append]
      repeat' (first | refine T_seq ?_ | refine T_regionR Tt (by kernel_rfl) ?_ | refine T_drawR Tt N.view_View_cut_d mixed (by kernel_rfl) ?_ | refine W_go Tt rfl ?_ | refine W_nil ?_ | refine T_cond_true rfl ?_ | refine T_cond_false rfl ?_ | refine T_skip ?_ | with_reducible refine R_then ?_ | with_reducible refine R_norm ?_ | refine A_cmpY Tt ?_ | refine A_cmpN Tt ?_ | (refine A_cmp Tt ?_ ?_ <;> intro hc) | refine A_ldPts Tt ?_ | refine A_ldSl Tt ?_ | refine A_arr Tt ?_ | refine S_ix Tt ?_ | refine S_ixA Tt ?_ | refine A_el Tt ?_ | refine A_el1 Tt ?_ | refine A_el2 Tt ?_ | refine A_store Tt ?_ | refine A_stEl Tt ?_ | (refine A_alloc Tt ?_; intro b) | (refine A_mk Tt ?_; intro b) | (refine A_call Tt N.view_View_place_is (fun _ => hpl _) (trivial) ?_; rintro v L ⟨rfl, rfl⟩ <;> dsimp only [List.cons_append, List.nil_append]) | (refine S_ixN Tt 0 ?_) | fail)
      (change bodyQ PP _ [fr] _ _ _ _ _; refine ⟨rfl, _, _, _, .nil, ⟨_, 1, .inr ⟨_, 0, rfl, Nat.le_refl _⟩, rfl, rfl⟩, takeS⟩)
    · have hc : cutL [] x = [⟨0, -1, 0⟩, ⟨x, -1, 0⟩] := by unfold cutL; rw [if_pos (by simp : ([] : List Pv).length = 0)]; unfold cut1; rw [hp0]; simp [hx]
      rw [hc]
      have hins := fun b b2 => sp_Insert_part (B := B) (a := some ⟨b, 0, none⟩) (va := some ⟨b2, 0, none⟩) (cap := 1) (vc := 1) (l := [⟨0, -1, 0⟩]) (ms := [⟨x, -1, 0⟩]) (i := 1) ⟨.inr ⟨b, 0, rfl, Nat.le_refl _⟩, .inr ⟨b2, 0, rfl, Nat.le_refl _⟩, by simp, by simp, by simp⟩
      refine Fn_of N.view_View_cut_f rfl rfl fun fr => ?_
      try dsimp only [List.append_eq, List.cons_append, List.nil_append]
      repeat' (first | refine T_seq ?_ | refine T_regionR Tt (by kernel_rfl) ?_ | refine T_drawR Tt N.view_View_cut_d mixed (by kernel_rfl) ?_ | refine W_goN Tt rfl ?_ | refine W_nil ?_ | refine T_cond_true rfl ?_ | refine T_cond_false rfl ?_ | refine T_skip ?_ | with_reducible refine R_then ?_ | with_reducible refine R_norm ?_ | refine A_cmpY Tt ?_ | refine A_cmpN Tt ?_ | refine A_addN Tt ?_ | refine A_addW Tt ?_ | (refine A_cmp Tt ?_ ?_ <;> intro hc) | refine A_ldPts Tt ?_ | refine A_ldSl Tt ?_ | refine A_arr Tt ?_ | refine S_ix Tt ?_ | refine S_ixA Tt ?_ | refine A_el Tt ?_ | refine A_el1 Tt ?_ | refine A_el2 Tt ?_ | refine A_store Tt ?_ | refine A_stEl Tt ?_ | (refine A_alloc Tt ?_; intro b) | (refine A_mk Tt ?_; intro b) | (refine A_call Tt N.view_View_place_is (fun _ => hpl _) (trivial) ?_; rintro v L ⟨rfl, rfl⟩ <;> dsimp only [List.cons_append, List.nil_append]) | (refine A_call Tt N.slices_Insert_part_is (fun _ => hins _ _) (trivial) ?_; rintro v L ⟨ra, rc, hrw, rfl, rfl⟩ <;> dsimp only [List.cons_append, List.nil_append]) | (refine S_ixN Tt 0 ?_) | fail)
      (change bodyQ PP _ [fr] _ _ _ _ _; refine ⟨rfl, _, _, _, .nil, ⟨ra, rc, hrw, rfl, rfl⟩, takeS⟩)
  · rcases hwf with ⟨rfl, h0, rfl⟩ | ⟨ib, off, rfl, hle⟩
    · omega
    obtain ⟨at', hat⟩ : ∃ k, k = placeN L x L.length := ⟨_, rfl⟩
    have hal : at' < L.length := by rw [hat]; exact placeN_lt (by omega)
    obtain ⟨p, hp⟩ : ∃ y, L[at']? = some y := ⟨_, List.getElem?_eq_getElem hal⟩
    have hpl := sp_place (B := B) (q := q) (a := some ⟨ib, off, none⟩) (cap := cap) (L := L) (x := x) ⟨.inr ⟨ib, off, rfl, hle⟩, hlen⟩
    rw [← hat] at hpl
    have hwf : wf (some ⟨ib, off, none⟩) L.length cap := .inr ⟨ib, off, rfl, hle⟩
    by_cases hx : p.f = x
    · have hc : cutL L x = L := by unfold cutL cut1; rw [if_neg hnil, ← hat, hp]; simp [hx]
      rw [hc]
      refine Fn_of N.view_View_cut_f rfl rfl fun fr => ?_
      try dsimp only [List.append_eq, List.cons_append, List.nil_append]
      repeat' (first | refine T_seq ?_ | refine T_regionR Tt (by kernel_rfl) ?_ | refine T_drawR Tt N.view_View_cut_d mixed (by kernel_rfl) ?_ | refine W_go Tt rfl ?_ | refine W_nil ?_ | refine T_cond_true rfl ?_ | refine T_cond_false rfl ?_ | refine T_skip ?_ | with_reducible refine R_then ?_ | with_reducible refine R_norm ?_ | refine A_cmpY Tt ?_ | refine A_cmpN Tt ?_ | (refine A_cmp Tt ?_ ?_ <;> intro hc) | refine A_ldPts Tt ?_ | refine A_ldSl Tt ?_ | refine A_arr Tt ?_ | refine S_ix Tt ?_ | refine S_ixA Tt ?_ | refine A_el Tt ?_ | refine A_el1 Tt ?_ | refine A_el2 Tt ?_ | refine A_store Tt ?_ | refine A_stEl Tt ?_ | (refine A_alloc Tt ?_; intro b) | (refine A_mk Tt ?_; intro b) | (refine A_call Tt N.view_View_place_is (fun _ => hpl) (trivial) ?_; rintro v L ⟨rfl, rfl⟩ <;> dsimp only [List.cons_append, List.nil_append]) | (refine S_ixN Tt at' ?_) | fail)
      (change bodyQ PP _ [fr] _ _ _ _ _; refine ⟨rfl, _, _, _, .nil, ⟨_, _, hwf, rfl, rfl⟩, takeS⟩)
    · have hc : cutL L x = L.take (at' + 1) ++ [⟨x, p.node, p.ep⟩] ++ L.drop (at' + 1) := by unfold cutL cut1; rw [if_neg hnil, ← hat, hp]; simp [hx]
      have hcl : (cutL L x).length = L.length + 1 := by rw [hc]; simp; omega
      rw [hcl, hc]
      have hins := fun b2 => sp_Insert_part (B := B) (a := some ⟨ib, off, none⟩) (va := some ⟨b2, 0, none⟩) (cap := cap) (vc := 1) (l := L) (ms := [⟨x, p.node, p.ep⟩]) (i := at' + 1) ⟨hwf, .inr ⟨b2, 0, rfl, Nat.le_refl _⟩, by simp, by omega, by simp; omega⟩
      refine Fn_of N.view_View_cut_f rfl rfl fun fr => ?_
      try dsimp only [List.append_eq, List.cons_append, List.nil_append]
      repeat' (first | refine T_seq ?_ | refine T_regionR Tt (by kernel_rfl) ?_ | refine T_drawR Tt N.view_View_cut_d mixed (by kernel_rfl) ?_ | refine W_goN Tt rfl ?_ | refine W_nil ?_ | refine T_cond_true rfl ?_ | refine T_cond_false rfl ?_ | refine T_skip ?_ | with_reducible refine R_then ?_ | with_reducible refine R_norm ?_ | refine A_cmpY Tt ?_ | refine A_cmpN Tt ?_ | refine A_addN Tt ?_ | refine A_addW Tt ?_ | (refine A_cmp Tt ?_ ?_ <;> intro hc) | refine A_ldPts Tt ?_ | refine A_ldSl Tt ?_ | refine A_arr Tt ?_ | refine S_ix Tt ?_ | refine S_ixA Tt ?_ | refine A_el Tt ?_ | refine A_el1 Tt ?_ | refine A_el2 Tt ?_ | refine A_store Tt ?_ | refine A_stEl Tt ?_ | (refine A_alloc Tt ?_; intro b) | (refine A_mk Tt ?_; intro b) | (refine A_call Tt N.view_View_place_is (fun _ => hpl) (trivial) ?_; rintro v L ⟨rfl, rfl⟩ <;> dsimp only [List.cons_append, List.nil_append]) | (refine A_call Tt N.slices_Insert_part_is (fun _ => hins _) (trivial) ?_; rintro v L ⟨ra, rc, hrw, rfl, rfl⟩ <;> dsimp only [List.cons_append, List.nil_append]) | (refine S_ixN Tt at' ?_) | fail)
      (change bodyQ PP _ [fr] _ _ _ _ _; refine ⟨rfl, _, _, _, .nil, ⟨ra, rc, hrw, rfl, rfl⟩, takeS⟩)
end Go.Rz

/- view: Learn. -/
open Go Go.Rz
set_option maxRecDepth 4000
set_option maxHeartbeats 40000000
namespace Go.Rz
noncomputable def vpieces (f t : Int) : List (Int × Int) := if t = 0 ∨ f < t then [(f, t)] else if f = t then [(0, 0)] else [(0, t), (f, 0)]
theorem vpieces_le (f t : Int) : (vpieces f t).length ≤ 2 := by unfold vpieces; split <;> (try split) <;> simp
theorem sp_vpieces {B : Base} {f t : Int} : True → Fn PP B N.view_pieces [.agg #[.int .u64 f, .int .u64 t]] [] (fun v L => ∃ b : Nat, v = .slice (some ⟨b, 0, none⟩) (vpieces f t).length (vpieces f t).length ∧ L = [sl (some ⟨b, 0, none⟩) (vpieces f t).length (vpieces f t).length 2 (flat arcC (vpieces f t))]) := by
  intro _
  by_cases h1 : t = 0 ∨ f < t
  · have e : vpieces f t = [(f, t)] := by unfold vpieces; rw [if_pos h1]
    rw [e]
    refine Fn_of N.view_pieces_f rfl rfl fun fr => ?_
    try dsimp only [List.append_eq, List.cons_append, List.nil_append]
    repeat' (first | refine T_seq ?_ | refine T_regionR Tt (by kernel_rfl) ?_ | refine W_go Tt rfl ?_ | refine W_nil ?_ | refine T_cond_true rfl ?_ | refine T_cond_false rfl ?_ | refine T_skip ?_ | refine T_ret ?_ | with_reducible refine R_then ?_ | with_reducible refine R_norm ?_ | refine A_cmpY Tt ?_ | refine A_cmpN Tt ?_ | (refine A_cmp Tt ?_ ?_ <;> intro hc) | refine A_skip Tt ?_ | refine A_ldPts Tt ?_ | refine A_ldSl Tt ?_ | refine A_arr Tt ?_ | refine A_el Tt ?_ | refine A_el1 Tt ?_ | refine A_el2 Tt ?_ | (refine A_box Tt ?_; intro b) | (refine A_mk Tt ?_; intro b) | fail)
    all_goals first
      | (exfalso; omega)
      | (change bodyQ PP _ [fr] _ _ _ _ _; refine ⟨rfl, _, _, _, (.tmp .nil), ⟨_, rfl, rfl⟩, takeS⟩)
  · by_cases h2 : f = t
    · have e : vpieces f t = [(0, 0)] := by unfold vpieces; rw [if_neg h1, if_pos h2]
      rw [e]
      refine Fn_of N.view_pieces_f rfl rfl fun fr => ?_
      try dsimp only [List.append_eq, List.cons_append, List.nil_append]
      repeat' (first | refine T_seq ?_ | refine T_regionR Tt (by kernel_rfl) ?_ | refine W_go Tt rfl ?_ | refine W_nil ?_ | refine T_cond_true rfl ?_ | refine T_cond_false rfl ?_ | refine T_skip ?_ | refine T_ret ?_ | with_reducible refine R_then ?_ | with_reducible refine R_norm ?_ | refine A_cmpY Tt ?_ | refine A_cmpN Tt ?_ | (refine A_cmp Tt ?_ ?_ <;> intro hc) | refine A_skip Tt ?_ | refine A_ldPts Tt ?_ | refine A_ldSl Tt ?_ | refine A_arr Tt ?_ | refine A_el Tt ?_ | refine A_el1 Tt ?_ | refine A_el2 Tt ?_ | (refine A_box Tt ?_; intro b) | (refine A_mk Tt ?_; intro b) | fail)
      all_goals first
        | (exfalso; omega)
        | (change bodyQ PP _ [fr] _ _ _ _ _; refine ⟨rfl, _, _, _, (.tmp .nil), ⟨_, rfl, rfl⟩, takeS⟩)
    · have e : vpieces f t = [(0, t), (f, 0)] := by unfold vpieces; rw [if_neg h1, if_neg h2]
      rw [e]
      refine Fn_of N.view_pieces_f rfl rfl fun fr => ?_
      try dsimp only [List.append_eq, List.cons_append, List.nil_append]
      repeat' (first | refine T_seq ?_ | refine T_regionR Tt (by kernel_rfl) ?_ | refine W_go Tt rfl ?_ | refine W_nil ?_ | refine T_cond_true rfl ?_ | refine T_cond_false rfl ?_ | refine T_skip ?_ | refine T_ret ?_ | with_reducible refine R_then ?_ | with_reducible refine R_norm ?_ | refine A_cmpY Tt ?_ | refine A_cmpN Tt ?_ | (refine A_cmp Tt ?_ ?_ <;> intro hc) | refine A_skip Tt ?_ | refine A_ldPts Tt ?_ | refine A_ldSl Tt ?_ | refine A_arr Tt ?_ | refine A_el Tt ?_ | refine A_el1 Tt ?_ | refine A_el2 Tt ?_ | (refine A_box Tt ?_; intro b) | (refine A_mk Tt ?_; intro b) | fail)
      all_goals first
        | (exfalso; omega)
        | (change bodyQ PP _ [fr] _ _ _ _ _; refine ⟨rfl, _, _, _, (.tmp .nil), ⟨_, rfl, rfl⟩, takeS⟩)
/-- What is learnt of a part. -/
noncomputable def setP (p : Int × Int) (node ep : Int) (y : Pv) : Pv := open Classical in if y.f < p.1 ∨ (0 < p.2 ∧ p.2 ≤ y.f) ∨ (0 ≤ y.node ∧ ep ≤ y.ep) then y else ⟨y.f, node, ep⟩
noncomputable def cut2 (L : List Pv) (p : Int × Int) : List Pv := if 0 < p.2 then cutL (cutL L p.1) p.2 else cutL L p.1
noncomputable def learnP (node ep : Int) (L : List Pv) (p : Int × Int) : List Pv := (cut2 L p).map (setP p node ep)
noncomputable def learnL (L : List Pv) (f t node ep : Int) : List Pv := (vpieces f t).foldl (learnP node ep) L
theorem cutL_le (L : List Pv) (x : Int) : (cutL L x).length ≤ L.length + 2 := by
  unfold cutL
  have main : ∀ M : List Pv, (cut1 M x).length ≤ M.length + 1 := fun M => by
    unfold cut1
    split
    · split
      · omega
      · simp; omega
    · omega
  split
  · have := main [⟨0, -1, 0⟩]; simp at this; omega
  · have := main L; omega
theorem learnP_le (node ep : Int) (L : List Pv) (p : Int × Int) : (learnP node ep L p).length ≤ L.length + 4 := by
  unfold learnP cut2
  rw [List.length_map]
  have h1 := cutL_le L p.1
  have h2 := cutL_le (cutL L p.1) p.2
  split <;> omega
structure VX where
  i : Nat
  a : Option Addr
  cp : Nat
  L : List Pv
  b : Bool
theorem map_take_step {α : Type} {f : α → α} {l : List α} {i : Nat} {y : α} (hy : l[i]? = some y) : (l.take (i + 1)).map f ++ l.drop (i + 1) = ((l.take i).map f ++ l.drop i).set i (f y) := by
  obtain ⟨h1, e⟩ := List.getElem?_eq_some_iff.1 hy
  have hd : l.drop i = y :: l.drop (i + 1) := by rw [← e]; exact List.drop_eq_getElem_cons h1
  have hl : ((l.take i).map f).length = i := by simp; omega
  rw [List.take_add_one, hy, hd, List.set_append, if_neg (by omega), hl, Nat.sub_self, List.set_cons_zero]
  simp
theorem mid_get {α : Type} {f : α → α} {l : List α} {i : Nat} {y : α} (hy : l[i]? = some y) : ((l.take i).map f ++ l.drop i)[i]? = some y := by
  obtain ⟨h1, e⟩ := List.getElem?_eq_some_iff.1 hy
  rw [List.getElem?_append_right (by simp; omega)]
  simp [Nat.min_eq_left (Nat.le_of_lt h1), hy]
theorem sp_Learn {B : Base} {q : Nat} {a : Option Addr} {cap : Nat} {L : List Pv} {f t node ep : Int} : (wf a L.length cap ∧ L.length ≤ 10000 ∧ 0 ≤ ep ∧ 0 ≤ node ∧ node ≤ 255 ∧ 0 ≤ f ∧ 0 ≤ t) →
    Fn PP B N.view_View_Learn [.pointer (some ⟨q, 0, none⟩), .agg #[.int .u64 f, .int .u64 t, .int .i64 node, .int .i64 ep]] [pts q 0 [.slice a L.length cap], sl a L.length cap 3 (flat pvC L)]
    (fun v M => ∃ a' cap' b, wf a' (learnL L f t node ep).length cap' ∧ v = .bool b ∧ M = [pts q 0 [.slice a' (learnL L f t node ep).length cap'], sl a' (learnL L f t node ep).length cap' 3 (flat pvC (learnL L f t node ep))]) := by
  rintro ⟨hwf, hlen, h1, h2, h3, hf0, ht0⟩
  have hpl := vpieces_le f t
  refine Fn_of N.view_View_Learn_f rfl rfl fun fr => ?_
  try dsimp only [List.append_eq, List.cons_append, List.nil_append]
  repeat' (first | refine T_seq ?_ | refine T_regionR Tt (by kernel_rfl) ?_ | refine T_drawR Tt N.view_View_Learn_d mixed (by kernel_rfl) ?_ | refine W_go Tt rfl ?_ | refine W_nil ?_ | refine T_cond_true rfl ?_ | refine T_cond_false rfl ?_ | refine T_skip ?_ | refine T_ret ?_ | refine T_exit ?_ | refine T_block ?_ | with_reducible refine R_block ?_ | with_reducible refine R_then ?_ | with_reducible refine R_norm ?_ | with_reducible refine R_exitEq ?_ | refine R_exitNe ?_ | with_reducible refine R_thenX ?_ | with_reducible refine R_scopeX ?_ | with_reducible refine R_blockN ?_ | refine A_cmpY Tt ?_ | refine A_cmpN Tt ?_ | (refine A_cmp Tt ?_ ?_ <;> intro hc) | refine A_skip Tt ?_ | refine A_ldPts Tt ?_ | refine A_ldSl Tt ?_ | refine S_ix Tt ?_ | refine S_ixA Tt ?_ | refine A_el Tt ?_ | refine A_el1 Tt ?_ | refine A_el2 Tt ?_ | refine A_store Tt ?_ | refine A_stEl Tt ?_ | (refine A_box Tt ?_; intro b) | (refine A_alloc Tt ?_; intro b) | (refine A_call Tt N.view_pieces_is (sp_vpieces) (trivial) ?_; rintro v L ⟨pb, rfl, rfl⟩ <;> dsimp only [List.cons_append, List.nil_append]) | fail)
  obtain ⟨ob, hob⟩ : ∃ x, x = b := ⟨_, rfl⟩
  subst hob
  refine T_loopE (X := VX) (fun x => [(0, .pointer (some ⟨q, 0, none⟩)), (3, .pointer (some ⟨ob, 0, none⟩)), (5, .bool x.b), (29, .slice (some ⟨pb, 0, none⟩) (vpieces f t).length (vpieces f t).length), (30, .int .i64 (vpieces f t).length), (31, .int .i64 x.i)])
    (fun x => [pts q 0 [.slice x.a x.L.length x.cp], sl x.a x.L.length x.cp 3 (flat pvC x.L), pts ob 0 [.int .u64 f, .int .u64 t, .int .i64 node, .int .i64 ep], sl (some ⟨pb, 0, none⟩) (vpieces f t).length (vpieces f t).length 2 (flat arcC (vpieces f t)), fr])
    (fun x => (vpieces f t).length + 1 - x.i) (fun x => x.i ≤ (vpieces f t).length ∧ wf x.a x.L.length x.cp ∧ x.L = ((vpieces f t).take x.i).foldl (learnP node ep) L ∧ x.L.length ≤ 10000 + 4 * x.i) ⟨0, a, cap, L, false⟩ ⟨by simp, hwf, rfl, by simpa using hlen⟩ (by exact ⟨rfl, rfl, rfl, rfl, rfl, rfl, trivial⟩) takeS ?_
  rintro ⟨i, a1, cp1, L1, bl⟩ d ⟨hi, hw1, hL1, hn1⟩
  dsimp only at hi hw1 hL1 hn1 ⊢
  by_cases hlt : i < (vpieces f t).length
  · obtain ⟨p, hp⟩ : ∃ x, (vpieces f t)[i]? = some x := ⟨_, List.getElem?_eq_getElem hlt⟩
    have hstep : ((vpieces f t).take (i + 1)).foldl (learnP node ep) L = learnP node ep L1 p := by rw [List.take_add_one, hp, hL1]; simp [List.foldl_append]
    have hc1 := cutL_le L1 p.1
    have hc2 := cutL_le (cutL L1 p.1) p.2
    have hle := learnP_le node ep L1 p
    obtain ⟨L2, hL2⟩ : ∃ M, M = cut2 L1 p := ⟨_, rfl⟩
    have hL2n : L2.length ≤ 20000 := by rw [hL2]; unfold cut2; split <;> omega
    by_cases hp2 : 0 < p.2
    · have e2 : L2 = cutL (cutL L1 p.1) p.2 := by rw [hL2]; unfold cut2; rw [if_pos hp2]
      rw [← e2] at hc2
      have hcall2 : ∀ a2 cp2, wf a2 (cutL L1 p.1).length cp2 → Fn PP B N.view_View_cut [.pointer (some ⟨q, 0, none⟩), .int .u64 p.2] [pts q 0 [.slice a2 (cutL L1 p.1).length cp2], sl a2 (cutL L1 p.1).length cp2 3 (flat pvC (cutL L1 p.1))] (fun v M => ∃ a' cap', wf a' L2.length cap' ∧ v = .tuple #[] ∧ M = [pts q 0 [.slice a' L2.length cap'], sl a' L2.length cap' 3 (flat pvC L2)]) := fun a2 cp2 hw => by
        rw [e2]; exact sp_cut ⟨hw, by omega⟩
      repeat' (first | refine T_seq ?_ | refine T_regionR Tt (by kernel_rfl) ?_ | refine T_drawR Tt N.view_View_Learn_d mixed (by kernel_rfl) ?_ | refine W_go Tt rfl ?_ | refine W_nil ?_ | refine T_cond_true rfl ?_ | refine T_cond_false rfl ?_ | refine T_skip ?_ | refine T_ret ?_ | refine T_exit ?_ | refine T_block ?_ | with_reducible refine R_block ?_ | with_reducible refine R_then ?_ | with_reducible refine R_norm ?_ | with_reducible refine R_exitEq ?_ | refine R_exitNe ?_ | with_reducible refine R_thenX ?_ | with_reducible refine R_scopeX ?_ | with_reducible refine R_blockN ?_ | refine A_cmpY Tt ?_ | refine A_cmpN Tt ?_ | (refine A_cmp Tt ?_ ?_ <;> intro hc) | refine A_skip Tt ?_ | refine A_ldPts Tt ?_ | refine A_ldSl Tt ?_ | refine S_ix Tt ?_ | refine S_ixA Tt ?_ | refine A_el Tt ?_ | refine A_el1 Tt ?_ | refine A_el2 Tt ?_ | refine A_store Tt ?_ | refine A_stEl Tt ?_ | (refine A_box Tt ?_; intro b) | (refine A_alloc Tt ?_; intro b) | (refine A_call Tt N.view_View_cut_is (sp_cut) (⟨hw1, by omega⟩) ?_; rintro v L ⟨ca, cc, hcw, rfl, rfl⟩ <;> dsimp only [List.cons_append, List.nil_append]) | (refine A_call Tt N.view_View_cut_is (hcall2 _ _) (hcw) ?_; rintro v L ⟨da, dc, hdw, rfl, rfl⟩ <;> dsimp only [List.cons_append, List.nil_append]) | fail)
      refine T_loopE (X := Nat × Bool) (fun x => [(0, .pointer (some ⟨q, 0, none⟩)), (3, .pointer (some ⟨ob, 0, none⟩)), (5, .bool x.2), (7, .pointer (some ⟨b, 0, none⟩)), (29, .slice (some ⟨pb, 0, none⟩) (vpieces f t).length (vpieces f t).length), (30, .int .i64 (vpieces f t).length), (31, .int .i64 i), (49, .slice da L2.length dc), (50, .int .i64 L2.length), (51, .int .i64 x.1)])
        (fun x => [pts b 0 [.int .u64 p.1, .int .u64 p.2], pts q 0 [.slice da L2.length dc], sl da L2.length dc 3 (flat pvC ((L2.take x.1).map (setP p node ep) ++ L2.drop x.1)), pts ob 0 [.int .u64 f, .int .u64 t, .int .i64 node, .int .i64 ep], sl (some ⟨pb, 0, none⟩) (vpieces f t).length (vpieces f t).length 2 (flat arcC (vpieces f t)), fr])
        (fun x => L2.length + 1 - x.1) (fun x => x.1 ≤ L2.length) (0, bl) (by simp) (by exact ⟨rfl, rfl, rfl, rfl, rfl, rfl, rfl, rfl, rfl, rfl, trivial⟩) takeS ?_
      rintro ⟨j, b2⟩ d2 hj
      dsimp only at hj ⊢
      by_cases hjl : j < L2.length
      · rcases hdw with ⟨_, h0, _⟩ | ⟨ib, off, rfl, hcle⟩
        · omega
        obtain ⟨y, hy⟩ : ∃ x, L2[j]? = some x := ⟨_, List.getElem?_eq_getElem hjl⟩
        have hmg := mid_get (f := setP p node ep) hy
        have hmt := map_take_step (f := setP p node ep) hy
        obtain ⟨cur, hcur⟩ : ∃ c, c = (L2.take j).map (setP p node ep) ++ L2.drop j := ⟨_, rfl⟩
        rw [← hcur] at hmg hmt
        rw [← hcur]
        by_cases hs : y.f < p.1 ∨ (0 < p.2 ∧ p.2 ≤ y.f) ∨ (0 ≤ y.node ∧ ep ≤ y.ep)
        · have hsp : setP p node ep y = y := by unfold setP; rw [if_pos hs]
          have e3 : (L2.take (j + 1)).map (setP p node ep) ++ L2.drop (j + 1) = cur := by
            rw [hmt, hsp]
            obtain ⟨h5, h6⟩ := List.getElem?_eq_some_iff.1 hmg
            rw [← h6]; exact List.set_getElem_self ..
          repeat' (first | refine T_seq ?_ | refine T_regionR Tt (by kernel_rfl) ?_ | refine T_drawR Tt N.view_View_Learn_d mixed (by kernel_rfl) ?_ | refine W_go Tt rfl ?_ | refine W_nil ?_ | refine T_cond_true rfl ?_ | refine T_cond_false rfl ?_ | refine T_skip ?_ | refine T_ret ?_ | refine T_exit ?_ | refine T_block ?_ | with_reducible refine R_block ?_ | with_reducible refine R_then ?_ | with_reducible refine R_norm ?_ | with_reducible refine R_exitEq ?_ | refine R_exitNe ?_ | with_reducible refine R_thenX ?_ | with_reducible refine R_scopeX ?_ | with_reducible refine R_blockN ?_ | refine A_cmpY Tt ?_ | refine A_cmpN Tt ?_ | (refine A_cmp Tt ?_ ?_ <;> intro hc) | refine A_skip Tt ?_ | refine A_ldPts Tt ?_ | refine A_ldSl Tt ?_ | refine S_ix Tt ?_ | refine S_ixA Tt ?_ | refine A_el Tt ?_ | refine A_el1 Tt ?_ | refine A_el2 Tt ?_ | refine A_store Tt ?_ | refine A_stEl Tt ?_ | (refine A_box Tt ?_; intro b) | (refine A_alloc Tt ?_; intro b) | fail)
          all_goals first
            | (exfalso; omega)
            | (refine ⟨rfl, (j + 1, b2), by dsimp only; omega, by dsimp only; omega, ⟨rfl, rfl, rfl, rfl, rfl, rfl, rfl, rfl, rfl, inc_ok (by omega), trivial⟩, ?_⟩; dsimp only; rw [e3]; exact ⟨_, takeS⟩)
        · have hsp : setP p node ep y = ⟨y.f, node, ep⟩ := by unfold setP; rw [if_neg hs]
          have e3 : splice (splice (flat pvC cur) ((j : Int).toNat * 3 + 1) [.int .i64 node]) ((j : Int).toNat * 3 + 2) [.int .i64 ep] = flat pvC ((L2.take (j + 1)).map (setP p node ep) ++ L2.drop (j + 1)) := by
            rw [Int.toNat_natCast, flat_splice (by infer_instance) (x' := ⟨y.f, node, y.ep⟩) hmg (by simp) rfl, flat_splice (by infer_instance) (x := ⟨y.f, node, y.ep⟩) (x' := ⟨y.f, node, ep⟩) (by obtain ⟨h5, h6⟩ := List.getElem?_eq_some_iff.1 hmg; rw [List.getElem?_set_self h5]) (by simp) rfl, List.set_set, hmt, hsp]
          repeat' (first | refine T_seq ?_ | refine T_regionR Tt (by kernel_rfl) ?_ | refine T_drawR Tt N.view_View_Learn_d mixed (by kernel_rfl) ?_ | refine W_go Tt rfl ?_ | refine W_nil ?_ | refine T_cond_true rfl ?_ | refine T_cond_false rfl ?_ | refine T_skip ?_ | refine T_ret ?_ | refine T_exit ?_ | refine T_block ?_ | with_reducible refine R_block ?_ | with_reducible refine R_then ?_ | with_reducible refine R_norm ?_ | with_reducible refine R_exitEq ?_ | refine R_exitNe ?_ | with_reducible refine R_thenX ?_ | with_reducible refine R_scopeX ?_ | with_reducible refine R_blockN ?_ | refine A_cmpY Tt ?_ | refine A_cmpN Tt ?_ | (refine A_cmp Tt ?_ ?_ <;> intro hc) | refine A_skip Tt ?_ | refine A_ldPts Tt ?_ | refine A_ldSl Tt ?_ | refine S_ix Tt ?_ | refine S_ixA Tt ?_ | refine A_el Tt ?_ | refine A_el1 Tt ?_ | refine A_el2 Tt ?_ | refine A_store Tt ?_ | refine A_stEl Tt ?_ | (refine A_box Tt ?_; intro b) | (refine A_alloc Tt ?_; intro b) | fail)
          all_goals first
            | (exfalso; omega)
            | (refine ⟨rfl, (j + 1, true), by dsimp only; omega, by dsimp only; omega, ⟨rfl, rfl, rfl, rfl, rfl, rfl, rfl, rfl, rfl, inc_ok (by omega), trivial⟩, ?_⟩; dsimp only; rw [← e3]; exact ⟨_, takeS⟩)
      · have hje : j = L2.length := by omega
        subst hje
        rw [List.take_length, List.drop_length, List.append_nil]
        have e3 : L2.map (setP p node ep) = learnP node ep L1 p := by rw [hL2]; rfl
        have e4 : L2.length = (learnP node ep L1 p).length := by rw [← e3, List.length_map]
        repeat' (first | refine T_seq ?_ | refine T_regionR Tt (by kernel_rfl) ?_ | refine T_drawR Tt N.view_View_Learn_d mixed (by kernel_rfl) ?_ | refine W_go Tt rfl ?_ | refine W_nil ?_ | refine T_cond_true rfl ?_ | refine T_cond_false rfl ?_ | refine T_skip ?_ | refine T_ret ?_ | refine T_exit ?_ | refine T_block ?_ | with_reducible refine R_block ?_ | with_reducible refine R_then ?_ | with_reducible refine R_norm ?_ | with_reducible refine R_exitEq ?_ | refine R_exitNe ?_ | with_reducible refine R_thenX ?_ | with_reducible refine R_scopeX ?_ | with_reducible refine R_blockN ?_ | refine A_cmpY Tt ?_ | refine A_cmpN Tt ?_ | (refine A_cmp Tt ?_ ?_ <;> intro hc) | refine A_skip Tt ?_ | refine A_ldPts Tt ?_ | refine A_ldSl Tt ?_ | refine S_ix Tt ?_ | refine S_ixA Tt ?_ | refine A_el Tt ?_ | refine A_el1 Tt ?_ | refine A_el2 Tt ?_ | refine A_store Tt ?_ | refine A_stEl Tt ?_ | (refine A_box Tt ?_; intro b) | (refine A_alloc Tt ?_; intro b) | fail)
        refine ⟨rfl, ⟨i + 1, da, dc, learnP node ep L1 p, b2⟩, ⟨by dsimp only; omega, by dsimp only; rw [← e4]; exact hdw, by dsimp only; rw [hstep], by dsimp only; omega⟩, by dsimp only; omega, ⟨rfl, rfl, rfl, rfl, rfl, inc_ok (by omega), trivial⟩, ?_⟩
        dsimp only; rw [← e4, ← e3]; exact ⟨_, takeS⟩
    · have e2 : L2 = cutL L1 p.1 := by rw [hL2]; unfold cut2; rw [if_neg hp2]
      have hcall1 : Fn PP B N.view_View_cut [.pointer (some ⟨q, 0, none⟩), .int .u64 p.1] [pts q 0 [.slice a1 L1.length cp1], sl a1 L1.length cp1 3 (flat pvC L1)] (fun v M => ∃ a' cap', wf a' L2.length cap' ∧ v = .tuple #[] ∧ M = [pts q 0 [.slice a' L2.length cap'], sl a' L2.length cap' 3 (flat pvC L2)]) := by
        rw [e2]; exact sp_cut ⟨hw1, by omega⟩
      repeat' (first | refine T_seq ?_ | refine T_regionR Tt (by kernel_rfl) ?_ | refine T_drawR Tt N.view_View_Learn_d mixed (by kernel_rfl) ?_ | refine W_go Tt rfl ?_ | refine W_nil ?_ | refine T_cond_true rfl ?_ | refine T_cond_false rfl ?_ | refine T_skip ?_ | refine T_ret ?_ | refine T_exit ?_ | refine T_block ?_ | with_reducible refine R_block ?_ | with_reducible refine R_then ?_ | with_reducible refine R_norm ?_ | with_reducible refine R_exitEq ?_ | refine R_exitNe ?_ | with_reducible refine R_thenX ?_ | with_reducible refine R_scopeX ?_ | with_reducible refine R_blockN ?_ | refine A_cmpY Tt ?_ | refine A_cmpN Tt ?_ | (refine A_cmp Tt ?_ ?_ <;> intro hc) | refine A_skip Tt ?_ | refine A_ldPts Tt ?_ | refine A_ldSl Tt ?_ | refine S_ix Tt ?_ | refine S_ixA Tt ?_ | refine A_el Tt ?_ | refine A_el1 Tt ?_ | refine A_el2 Tt ?_ | refine A_store Tt ?_ | refine A_stEl Tt ?_ | (refine A_box Tt ?_; intro b) | (refine A_alloc Tt ?_; intro b) | (refine A_call Tt N.view_View_cut_is (fun _ => hcall1) (trivial) ?_; rintro v L ⟨da, dc, hdw, rfl, rfl⟩ <;> dsimp only [List.cons_append, List.nil_append]) | fail)
      refine T_loopE (X := Nat × Bool) (fun x => [(0, .pointer (some ⟨q, 0, none⟩)), (3, .pointer (some ⟨ob, 0, none⟩)), (5, .bool x.2), (7, .pointer (some ⟨b, 0, none⟩)), (29, .slice (some ⟨pb, 0, none⟩) (vpieces f t).length (vpieces f t).length), (30, .int .i64 (vpieces f t).length), (31, .int .i64 i), (49, .slice da L2.length dc), (50, .int .i64 L2.length), (51, .int .i64 x.1)])
        (fun x => [pts b 0 [.int .u64 p.1, .int .u64 p.2], pts q 0 [.slice da L2.length dc], sl da L2.length dc 3 (flat pvC ((L2.take x.1).map (setP p node ep) ++ L2.drop x.1)), pts ob 0 [.int .u64 f, .int .u64 t, .int .i64 node, .int .i64 ep], sl (some ⟨pb, 0, none⟩) (vpieces f t).length (vpieces f t).length 2 (flat arcC (vpieces f t)), fr])
        (fun x => L2.length + 1 - x.1) (fun x => x.1 ≤ L2.length) (0, bl) (by simp) (by exact ⟨rfl, rfl, rfl, rfl, rfl, rfl, rfl, rfl, rfl, rfl, trivial⟩) takeS ?_
      rintro ⟨j, b2⟩ d2 hj
      dsimp only at hj ⊢
      by_cases hjl : j < L2.length
      · rcases hdw with ⟨_, h0, _⟩ | ⟨ib, off, rfl, hcle⟩
        · omega
        obtain ⟨y, hy⟩ : ∃ x, L2[j]? = some x := ⟨_, List.getElem?_eq_getElem hjl⟩
        have hmg := mid_get (f := setP p node ep) hy
        have hmt := map_take_step (f := setP p node ep) hy
        obtain ⟨cur, hcur⟩ : ∃ c, c = (L2.take j).map (setP p node ep) ++ L2.drop j := ⟨_, rfl⟩
        rw [← hcur] at hmg hmt
        rw [← hcur]
        by_cases hs : y.f < p.1 ∨ (0 < p.2 ∧ p.2 ≤ y.f) ∨ (0 ≤ y.node ∧ ep ≤ y.ep)
        · have hsp : setP p node ep y = y := by unfold setP; rw [if_pos hs]
          have e3 : (L2.take (j + 1)).map (setP p node ep) ++ L2.drop (j + 1) = cur := by
            rw [hmt, hsp]
            obtain ⟨h5, h6⟩ := List.getElem?_eq_some_iff.1 hmg
            rw [← h6]; exact List.set_getElem_self ..
          repeat' (first | refine T_seq ?_ | refine T_regionR Tt (by kernel_rfl) ?_ | refine T_drawR Tt N.view_View_Learn_d mixed (by kernel_rfl) ?_ | refine W_go Tt rfl ?_ | refine W_nil ?_ | refine T_cond_true rfl ?_ | refine T_cond_false rfl ?_ | refine T_skip ?_ | refine T_ret ?_ | refine T_exit ?_ | refine T_block ?_ | with_reducible refine R_block ?_ | with_reducible refine R_then ?_ | with_reducible refine R_norm ?_ | with_reducible refine R_exitEq ?_ | refine R_exitNe ?_ | with_reducible refine R_thenX ?_ | with_reducible refine R_scopeX ?_ | with_reducible refine R_blockN ?_ | refine A_cmpY Tt ?_ | refine A_cmpN Tt ?_ | (refine A_cmp Tt ?_ ?_ <;> intro hc) | refine A_skip Tt ?_ | refine A_ldPts Tt ?_ | refine A_ldSl Tt ?_ | refine S_ix Tt ?_ | refine S_ixA Tt ?_ | refine A_el Tt ?_ | refine A_el1 Tt ?_ | refine A_el2 Tt ?_ | refine A_store Tt ?_ | refine A_stEl Tt ?_ | (refine A_box Tt ?_; intro b) | (refine A_alloc Tt ?_; intro b) | fail)
          all_goals first
            | (exfalso; omega)
            | (refine ⟨rfl, (j + 1, b2), by dsimp only; omega, by dsimp only; omega, ⟨rfl, rfl, rfl, rfl, rfl, rfl, rfl, rfl, rfl, inc_ok (by omega), trivial⟩, ?_⟩; dsimp only; rw [e3]; exact ⟨_, takeS⟩)
        · have hsp : setP p node ep y = ⟨y.f, node, ep⟩ := by unfold setP; rw [if_neg hs]
          have e3 : splice (splice (flat pvC cur) ((j : Int).toNat * 3 + 1) [.int .i64 node]) ((j : Int).toNat * 3 + 2) [.int .i64 ep] = flat pvC ((L2.take (j + 1)).map (setP p node ep) ++ L2.drop (j + 1)) := by
            rw [Int.toNat_natCast, flat_splice (by infer_instance) (x' := ⟨y.f, node, y.ep⟩) hmg (by simp) rfl, flat_splice (by infer_instance) (x := ⟨y.f, node, y.ep⟩) (x' := ⟨y.f, node, ep⟩) (by obtain ⟨h5, h6⟩ := List.getElem?_eq_some_iff.1 hmg; rw [List.getElem?_set_self h5]) (by simp) rfl, List.set_set, hmt, hsp]
          repeat' (first | refine T_seq ?_ | refine T_regionR Tt (by kernel_rfl) ?_ | refine T_drawR Tt N.view_View_Learn_d mixed (by kernel_rfl) ?_ | refine W_go Tt rfl ?_ | refine W_nil ?_ | refine T_cond_true rfl ?_ | refine T_cond_false rfl ?_ | refine T_skip ?_ | refine T_ret ?_ | refine T_exit ?_ | refine T_block ?_ | with_reducible refine R_block ?_ | with_reducible refine R_then ?_ | with_reducible refine R_norm ?_ | with_reducible refine R_exitEq ?_ | refine R_exitNe ?_ | with_reducible refine R_thenX ?_ | with_reducible refine R_scopeX ?_ | with_reducible refine R_blockN ?_ | refine A_cmpY Tt ?_ | refine A_cmpN Tt ?_ | (refine A_cmp Tt ?_ ?_ <;> intro hc) | refine A_skip Tt ?_ | refine A_ldPts Tt ?_ | refine A_ldSl Tt ?_ | refine S_ix Tt ?_ | refine S_ixA Tt ?_ | refine A_el Tt ?_ | refine A_el1 Tt ?_ | refine A_el2 Tt ?_ | refine A_store Tt ?_ | refine A_stEl Tt ?_ | (refine A_box Tt ?_; intro b) | (refine A_alloc Tt ?_; intro b) | fail)
          all_goals first
            | (exfalso; omega)
            | (refine ⟨rfl, (j + 1, true), by dsimp only; omega, by dsimp only; omega, ⟨rfl, rfl, rfl, rfl, rfl, rfl, rfl, rfl, rfl, inc_ok (by omega), trivial⟩, ?_⟩; dsimp only; rw [← e3]; exact ⟨_, takeS⟩)
      · have hje : j = L2.length := by omega
        subst hje
        rw [List.take_length, List.drop_length, List.append_nil]
        have e3 : L2.map (setP p node ep) = learnP node ep L1 p := by rw [hL2]; rfl
        have e4 : L2.length = (learnP node ep L1 p).length := by rw [← e3, List.length_map]
        repeat' (first | refine T_seq ?_ | refine T_regionR Tt (by kernel_rfl) ?_ | refine T_drawR Tt N.view_View_Learn_d mixed (by kernel_rfl) ?_ | refine W_go Tt rfl ?_ | refine W_nil ?_ | refine T_cond_true rfl ?_ | refine T_cond_false rfl ?_ | refine T_skip ?_ | refine T_ret ?_ | refine T_exit ?_ | refine T_block ?_ | with_reducible refine R_block ?_ | with_reducible refine R_then ?_ | with_reducible refine R_norm ?_ | with_reducible refine R_exitEq ?_ | refine R_exitNe ?_ | with_reducible refine R_thenX ?_ | with_reducible refine R_scopeX ?_ | with_reducible refine R_blockN ?_ | refine A_cmpY Tt ?_ | refine A_cmpN Tt ?_ | (refine A_cmp Tt ?_ ?_ <;> intro hc) | refine A_skip Tt ?_ | refine A_ldPts Tt ?_ | refine A_ldSl Tt ?_ | refine S_ix Tt ?_ | refine S_ixA Tt ?_ | refine A_el Tt ?_ | refine A_el1 Tt ?_ | refine A_el2 Tt ?_ | refine A_store Tt ?_ | refine A_stEl Tt ?_ | (refine A_box Tt ?_; intro b) | (refine A_alloc Tt ?_; intro b) | fail)
        refine ⟨rfl, ⟨i + 1, da, dc, learnP node ep L1 p, b2⟩, ⟨by dsimp only; omega, by dsimp only; rw [← e4]; exact hdw, by dsimp only; rw [hstep], by dsimp only; omega⟩, by dsimp only; omega, ⟨rfl, rfl, rfl, rfl, rfl, inc_ok (by omega), trivial⟩, ?_⟩
        dsimp only; rw [← e4, ← e3]; exact ⟨_, takeS⟩
  · have hie : i = (vpieces f t).length := by omega
    subst hie
    rw [List.take_length] at hL1
    have hL1' : L1 = learnL L f t node ep := hL1
    rw [← hL1']
    repeat' (first | refine T_seq ?_ | refine T_regionR Tt (by kernel_rfl) ?_ | refine T_drawR Tt N.view_View_Learn_d mixed (by kernel_rfl) ?_ | refine W_go Tt rfl ?_ | refine W_nil ?_ | refine T_cond_true rfl ?_ | refine T_cond_false rfl ?_ | refine T_skip ?_ | refine T_ret ?_ | refine T_exit ?_ | refine T_block ?_ | with_reducible refine R_block ?_ | with_reducible refine R_then ?_ | with_reducible refine R_norm ?_ | with_reducible refine R_exitEq ?_ | refine R_exitNe ?_ | with_reducible refine R_thenX ?_ | with_reducible refine R_scopeX ?_ | with_reducible refine R_blockN ?_ | refine A_cmpY Tt ?_ | refine A_cmpN Tt ?_ | (refine A_cmp Tt ?_ ?_ <;> intro hc) | refine A_skip Tt ?_ | refine A_ldPts Tt ?_ | refine A_ldSl Tt ?_ | refine S_ix Tt ?_ | refine S_ixA Tt ?_ | refine A_el Tt ?_ | refine A_el1 Tt ?_ | refine A_el2 Tt ?_ | refine A_store Tt ?_ | refine A_stEl Tt ?_ | (refine A_box Tt ?_; intro b) | (refine A_alloc Tt ?_; intro b) | fail)
    (change bodyQ PP _ [fr] _ _ _ _ _; refine ⟨rfl, _, _, _, (.tmp .nil), ⟨a1, cp1, bl, hw1, rfl, rfl⟩, takeS⟩)
end Go.Rz

/- view: arcs. -/
open Go Go.Rz
set_option maxRecDepth 4000
set_option maxHeartbeats 40000000
namespace Go.Rz
def alikeP (a b : Pv) : Prop := a.node = b.node ∧ a.ep = b.ep
instance (a b : Pv) : Decidable (alikeP a b) := inferInstanceAs (Decidable (_ ∧ _))
def pvV (p : Pv) : Value := .agg #[.int .u64 p.f, .int .i64 p.node, .int .i64 p.ep]
theorem sp_alike {B : Base} {a b : Pv} : True → Fn PP B N.view_alike [pvV a, pvV b] [] (fun v L => ∃ q : Bool, v = .bool q ∧ (q = true ↔ alikeP a b) ∧ L = []) := by
  intro _
  refine Fn_of N.view_alike_f rfl rfl fun fr => ?_
  try dsimp only [List.append_eq, List.cons_append, List.nil_append]
  repeat' (first | refine T_seq ?_ | refine T_regionR Tt (by kernel_rfl) ?_ | refine W_go Tt rfl ?_ | refine W_nil ?_ | refine T_ret ?_ | with_reducible refine R_then ?_ | with_reducible refine R_norm ?_ | refine A_cmpT Tt ?_ | refine A_cmpF Tt ?_ | (refine A_cmp Tt ?_ ?_ <;> intro hc) | refine A_skip Tt ?_ | refine A_ldPts Tt ?_ | refine A_ldSl Tt ?_ | refine A_el Tt ?_ | refine A_el1 Tt ?_ | refine A_el2 Tt ?_ | (refine A_box Tt ?_; intro b) | fail)
  all_goals
    (change bodyQ PP _ [fr] _ _ _ _ _; refine ⟨rfl, _, _, _, (.tmp .nil), ⟨_, rfl, by unfold alikeP; simp at *; omega, rfl⟩, takeS⟩)
theorem sp_alike_yes {B : Base} {a b : Pv} : alikeP a b → Fn PP B N.view_alike [pvV a, pvV b] [] (fun v L => v = .bool true ∧ L = []) := fun h =>
  (sp_alike trivial).mono fun v L ⟨q, h1, h2, h3⟩ => ⟨by rw [h1, h2.2 h], h3⟩
theorem sp_alike_no {B : Base} {a b : Pv} : ¬ alikeP a b → Fn PP B N.view_alike [pvV a, pvV b] [] (fun v L => v = .bool false ∧ L = []) := fun h =>
  (sp_alike trivial).mono fun v L ⟨q, h1, h2, h3⟩ => ⟨(by cases q with | false => exact h1 | true => exact absurd (h2.1 rfl) h), h3⟩
/-- Parts of which the same is known are one. -/
def compS (acc : List Pv) (p : Pv) : List Pv := match acc.getLast? with
  | some q => if alikeP q p then acc else acc ++ [p]
  | none => acc ++ [p]
def compL (L : List Pv) : List Pv := L.foldl compS []
theorem comp_take {L : List Pv} {i : Nat} {p : Pv} (h : L[i]? = some p) : compL (L.take (i + 1)) = compS (compL (L.take i)) p := by
  unfold compL; rw [List.take_add_one, h]; simp [List.foldl_append]
theorem compS_le (acc : List Pv) (p : Pv) : (compS acc p).length ≤ acc.length + 1 := by
  unfold compS
  split
  · split <;> simp
  · simp
theorem comp_pos {L : List Pv} (h : 0 < L.length) : 0 < (compL L).length := by
  obtain ⟨p, hp⟩ : ∃ x, L[L.length - 1]? = some x := ⟨_, List.getElem?_eq_getElem (by omega)⟩
  have h1 := comp_take hp
  rw [show L.length - 1 + 1 = L.length by omega, List.take_length] at h1
  rw [h1]; unfold compS
  split
  · split
    · rename_i q hq _; cases hc : compL (L.take (L.length - 1)) with
      | nil => rw [hc] at hq; cases hq
      | cons => simp
    · simp
  · simp
theorem comp_le : ∀ (L : List Pv), (compL L).length ≤ L.length := by
  have : ∀ (L acc : List Pv), (L.foldl compS acc).length ≤ acc.length + L.length := by
    intro L
    induction L with
    | nil => simp
    | cons p L ih => intro acc; have h1 := ih (compS acc p); have h2 := compS_le acc p; simp only [List.foldl_cons, List.length_cons]; omega
  intro L; have := this L []; simpa [compL] using this
/-- The arcs of parts. -/
def ownOf (l : List Pv) (x : Pv × Nat) : Option Ow := if 0 ≤ x.1.node then some ⟨x.1.f, ((l[(x.2 + 1) % l.length]?).getD ⟨0, 0, 0⟩).f, x.1.node, x.1.ep⟩ else none
def ownsN (l : List Pv) (i : Nat) : List Ow := (l.take i).zipIdx.filterMap (ownOf l)
def ownsL (l : List Pv) : List Ow := l.zipIdx.filterMap (ownOf l)
theorem owns_take {l : List Pv} {i : Nat} {p : Pv} (h : l[i]? = some p) : ownsN l (i + 1) = ownsN l i ++ (ownOf l (p, i)).toList := by
  have h1 := (List.getElem?_eq_some_iff.1 h).1
  unfold ownsN
  rw [List.take_add_one, h, List.zipIdx_append, List.filterMap_append]
  simp [Nat.min_eq_left (Nat.le_of_lt h1), List.filterMap_cons]
  cases ownOf l (p, i) <;> rfl
theorem owns_len (l : List Pv) (i : Nat) : (ownsN l i).length ≤ i := by
  unfold ownsN
  refine Nat.le_trans (List.length_filterMap_le ..) ?_
  simp; omega
theorem owns_mono {l : List Pv} {i : Nat} : ∀ k : Nat, (ownsN l i).length ≤ (ownsN l (i + k)).length := by
  intro k
  induction k with
  | zero => exact Nat.le_refl _
  | succ k ih =>
    refine Nat.le_trans ih ?_
    cases h : l[i + k]? with
    | none =>
      have h1 := List.getElem?_eq_none_iff.1 h
      unfold ownsN
      rw [List.take_of_length_le h1, List.take_of_length_le (by omega)]; exact Nat.le_refl _
    | some p => rw [show i + (k + 1) = i + k + 1 by omega, owns_take h]; simp
theorem owns_all (l : List Pv) : ownsN l l.length = ownsL l := by unfold ownsN ownsL; rw [List.take_length]
/-- Does one go over the end? -/
def wraps (l : List Pv) : Prop := ∃ a b, 1 < l.length ∧ l[0]? = some a ∧ l[l.length - 1]? = some b ∧ 0 ≤ a.node ∧ alikeP a b
theorem wraps_two {l : List Pv} (h : wraps l) : 2 ≤ (ownsL l).length := by
  obtain ⟨a, b, h1, ha, hb, hn, hk⟩ := h
  have e1 := owns_take ha
  have e2 := owns_take hb
  have ea : ownOf l (a, 0) = some ⟨a.f, ((l[(0 + 1) % l.length]?).getD ⟨0, 0, 0⟩).f, a.node, a.ep⟩ := by unfold ownOf; rw [if_pos hn]
  have eb : ownOf l (b, l.length - 1) = some ⟨b.f, ((l[(l.length - 1 + 1) % l.length]?).getD ⟨0, 0, 0⟩).f, b.node, b.ep⟩ := by unfold ownOf; rw [if_pos (by have := hk.1; show 0 ≤ b.node; omega)]
  rw [ea] at e1; rw [eb, show l.length - 1 + 1 = l.length by omega] at e2
  have h2 := owns_mono (l := l) (i := 1) (l.length - 2)
  rw [show 1 + (l.length - 2) = l.length - 1 by omega] at h2
  rw [← owns_all, e2]
  rw [show 0 + 1 = 1 by rfl] at e1
  rw [e1] at h2
  simp at h2 ⊢; omega
noncomputable def joinO (o : List Ow) : List Ow := (o.set (o.length - 1) { (o.getD (o.length - 1) ⟨0, 0, 0, 0⟩) with t := (o.getD 0 ⟨0, 0, 0, 0⟩).t }).drop 1
noncomputable def arcsL (L : List Pv) : List Ow := open Classical in if wraps (compL L) then joinO (ownsL (compL L)) else ownsL (compL L)
theorem arcs_le (L : List Pv) : (arcsL L).length ≤ L.length := by
  have h1 := comp_le L
  have h2 := owns_len (compL L) (compL L).length
  rw [owns_all] at h2
  unfold arcsL
  split
  · unfold joinO; simp; omega
  · omega

theorem Ent.sl_tail {b off n cap esz k : Nat} {us : List Value} {S : List HProp} (hk : k ≤ n) : Ent (sl (some ⟨b, off, none⟩) n cap esz us :: S) (sl (some ⟨b, off + k * esz, none⟩) (n - k) (cap - k) esz (us.drop (k * esz)) :: S) := fun h H =>
  seps_head_mono (fun g hg => by
    obtain ⟨ha, hb, hc⟩ := hg
    obtain ⟨junk, hj, hp⟩ := hc b off rfl
    have hle : n ≤ cap := by
      rcases hb with ⟨h, _, _⟩ | ⟨_, _, _, hle⟩
      · cases h
      · exact hle
    have hmul : k * esz ≤ n * esz := Nat.mul_le_mul_right _ hk
    refine ⟨by rw [List.length_drop, ha, ← Nat.sub_mul], .inr ⟨_, _, rfl, by omega⟩, fun b' off' e => ?_⟩
    simp only [Option.some.injEq, Addr.mk.injEq] at e
    obtain ⟨rfl, rfl, _⟩ := e
    refine ⟨junk, by rw [hj]; congr 1; omega, fun i v e => ?_⟩
    have := hp (k * esz + i) v (by rw [← List.getElem?_drop, List.drop_append_of_le_length (by omega)]; exact e)
    rw [show off + k * esz + i = off + (k * esz + i) by omega]; exact this) H

structure CX where
  i : Nat
  a : Option Addr
  cp : Nat
  n : Nat
  us : List Value
theorem sp_arcs {B : Base} {q : Nat} {a : Option Addr} {cap : Nat} {L : List Pv} : (wf a L.length cap ∧ L.length ≤ 100000 ∧ 0 < L.length) →
    Fn PP B N.view_View_arcs [.pointer (some ⟨q, 0, none⟩)] [pts q 0 [.slice a L.length cap], sl a L.length cap 3 (flat pvC L)]
    (fun v M => ∃ a' cap', wf a' (arcsL L).length cap' ∧ v = .slice a' (arcsL L).length cap' ∧ M = [sl a' (arcsL L).length cap' 4 (flat ownC (arcsL L)), pts q 0 [.slice a L.length cap], sl a L.length cap 3 (flat pvC L)]) := by
  rintro ⟨hwf, hlen, hpos⟩
  refine Fn.conseq (Ps' := fun v M => (¬ wraps (compL L) ∧ ∃ a' cap', wf a' (ownsL (compL L)).length cap' ∧ v = .slice a' (ownsL (compL L)).length cap' ∧ M = [sl a' (ownsL (compL L)).length cap' 4 (flat ownC (ownsL (compL L))), pts q 0 [.slice a L.length cap], sl a L.length cap 3 (flat pvC L)]) ∨
      (wraps (compL L) ∧ ∃ b off cap' ws, 1 ≤ (ownsL (compL L)).length ∧ (ownsL (compL L)).length ≤ cap' ∧ ws.length = (ownsL (compL L)).length ∧ joinO (ownsL (compL L)) = ws.drop 1 ∧ v = .slice (some ⟨b, off + 1 * 4, none⟩) ((ownsL (compL L)).length - 1) (cap' - 1) ∧ M = [sl (some ⟨b, off, none⟩) (ownsL (compL L)).length cap' 4 (flat ownC ws), pts q 0 [.slice a L.length cap], sl a L.length cap 3 (flat pvC L)])) ?_ ((Ent.sl0 (esz := 4)).trans (Ent.sl0 (esz := 3))) ?_
  rotate_left
  · rintro v M (⟨hn, a', cap', hw, rfl, rfl⟩ | ⟨hw, b, off, cap', ws, h1, hcap, hws, hj, rfl, rfl⟩)
    · have e : arcsL L = ownsL (compL L) := by unfold arcsL; rw [if_neg hn]
      exact ⟨_, ⟨a', cap', by rw [e]; exact hw, by rw [e], rfl⟩, by rw [e]; exact Ent.refl _⟩
    · have e : arcsL L = ws.drop 1 := by unfold arcsL; rw [if_pos hw, hj]
      have el : (ws.drop 1).length = (ownsL (compL L)).length - 1 := by simp [hws]
      refine ⟨_, ⟨some ⟨b, off + 1 * 4, none⟩, cap' - 1, by rw [e, el]; exact .inr ⟨_, _, rfl, by omega⟩, by rw [e, el], rfl⟩, ?_⟩
      rw [e, el, ← flat_drop (by infer_instance)]
      exact Ent.sl_tail h1
  refine Fn_of N.view_View_arcs_f rfl rfl fun fr => ?_
  try dsimp only [List.append_eq, List.cons_append, List.nil_append]
  repeat' (first | refine T_seq ?_ | refine T_regionR Tt (by kernel_rfl) ?_ | refine T_drawR Tt N.view_View_arcs_d mixed (by kernel_rfl) ?_ | refine W_go Tt rfl ?_ | refine W_nil ?_ | refine T_cond_true rfl ?_ | refine T_cond_false rfl ?_ | refine T_skip ?_ | refine T_ret ?_ | refine T_exit ?_ | refine T_block ?_ | with_reducible refine R_block ?_ | with_reducible refine R_then ?_ | with_reducible refine R_norm ?_ | with_reducible refine R_exitEq ?_ | refine R_exitNe ?_ | with_reducible refine R_thenX ?_ | with_reducible refine R_scopeX ?_ | with_reducible refine R_blockN ?_ | refine A_cmpT Tt ?_ | refine A_cmpF Tt ?_ | (refine A_cmp Tt ?_ ?_ <;> intro hc) | refine A_skip Tt ?_ | refine A_ldPts Tt ?_ | refine A_ldSl Tt ?_ | refine A_arr Tt ?_ | refine S_ix Tt ?_ | refine S_ixA Tt ?_ | refine A_el Tt ?_ | refine A_el1 Tt ?_ | refine A_el2 Tt ?_ | refine A_store Tt ?_ | refine A_stEl Tt ?_ | (refine A_alloc Tt ?_; intro b) | (refine A_mk Tt ?_; intro b) | (refine A_app Tt ?_; intro a cp hwf) | (refine A_appNil Tt ?_; intro a cp hwf) | refine A_rem Tt ?_ | refine A_slc0 Tt ?_ | refine A_slc Tt ?_ | refine A_slcE Tt ?_ | fail)
  refine T_loopE (X := CX) (fun x => [(0, .pointer (some ⟨q, 0, none⟩)), (3, .slice x.a x.n x.cp), (16, .slice a L.length cap), (17, .int .i64 L.length), (18, .int .i64 x.i)])
    (fun x => [pts q 0 [.slice a L.length cap], sl a L.length cap 3 (flat pvC L), sl x.a x.n x.cp 3 x.us, sl none 0 0 4 [], fr]) (fun x => L.length + 1 - x.i) (fun x => x.i ≤ L.length ∧ wf x.a x.n x.cp ∧ x.n = (compL (L.take x.i)).length ∧ x.us = flat pvC (compL (L.take x.i))) ⟨0, none, 0, 0, []⟩ ⟨by simp, .inl ⟨rfl, rfl, rfl⟩, by simp [compL], by simp [compL]⟩ (by exact ⟨rfl, rfl, rfl, rfl, rfl, trivial⟩) takeS ?_
  rintro ⟨i, a1, cp1, n1, us1⟩ d ⟨hi, hw1, hn1, hu1⟩
  dsimp only at hi hw1 hn1 hu1 ⊢
  by_cases hlt : i < L.length
  · rcases hwf with ⟨rfl, h0, rfl⟩ | ⟨ib, off, rfl, hle⟩
    · omega
    obtain ⟨p, hp⟩ : ∃ x, L[i]? = some x := ⟨_, List.getElem?_eq_getElem hlt⟩
    obtain ⟨acc, hacc⟩ : ∃ c, c = compL (L.take i) := ⟨_, rfl⟩
    have hct := comp_take hp
    rw [← hacc] at hn1 hu1 hct
    subst hn1; subst hu1
    have hal : acc.length ≤ 100000 := by rw [hacc]; have := comp_le (L.take i); simp at this; omega
    by_cases hnil : acc.length = 0
    · have e1 : compS acc p = acc ++ [p] := by rw [List.length_eq_zero_iff.1 hnil]; rfl
      repeat' (first | refine T_seq ?_ | refine T_regionR Tt (by kernel_rfl) ?_ | refine T_drawR Tt N.view_View_arcs_d mixed (by kernel_rfl) ?_ | refine W_goN Tt rfl ?_ | refine W_nil ?_ | refine T_cond_true rfl ?_ | refine T_cond_false rfl ?_ | refine T_skip ?_ | refine T_ret ?_ | refine T_exit ?_ | refine T_block ?_ | with_reducible refine R_block ?_ | with_reducible refine R_then ?_ | with_reducible refine R_norm ?_ | with_reducible refine R_exitEq ?_ | refine R_exitNe ?_ | with_reducible refine R_thenX ?_ | with_reducible refine R_scopeX ?_ | with_reducible refine R_blockN ?_ | refine A_cmpY Tt ?_ | refine A_cmpN Tt ?_ | refine A_addN Tt ?_ | refine A_subN Tt ?_ | refine A_addW Tt ?_ | refine A_subW Tt ?_ | (refine A_cmp Tt ?_ ?_ <;> intro hc) | refine A_skip Tt ?_ | refine A_ldPts Tt ?_ | refine A_ldSl Tt ?_ | refine A_arr Tt ?_ | refine S_ix Tt ?_ | refine S_ixA Tt ?_ | refine A_el Tt ?_ | refine A_el1 Tt ?_ | refine A_el2 Tt ?_ | refine A_store Tt ?_ | refine A_stEl Tt ?_ | (refine A_alloc Tt ?_; intro b) | (refine A_mk Tt ?_; intro b) | (refine A_app Tt ?_; intro a cp hwf) | (refine A_appNil Tt ?_; intro a cp hwf) | refine A_rem Tt ?_ | refine A_slc0 Tt ?_ | refine A_slc Tt ?_ | refine A_slcE Tt ?_ | fail)
      refine ⟨rfl, ⟨i + 1, _, _, acc.length + 1, flat pvC acc ++ pvC p⟩, ⟨by dsimp only; omega, hwf, by dsimp only; rw [hct, e1]; simp, by dsimp only; rw [hct, e1]; simp⟩, by dsimp only; omega, ⟨rfl, rfl, rfl, rfl, rfl, trivial⟩, _, takeS⟩
    · rcases hw1 with ⟨_, h0, _⟩ | ⟨ab, aoff, rfl, hale⟩
      · omega
      obtain ⟨z, hz⟩ : ∃ x, acc[acc.length - 1]? = some x := ⟨_, List.getElem?_eq_getElem (by omega)⟩
      have hgl : acc.getLast? = some z := by rw [List.getLast?_eq_getElem?, hz]
      by_cases hk : alikeP z p
      · have e1 : compS acc p = acc := by unfold compS; rw [hgl]; simp [hk]
        repeat' (first | refine T_seq ?_ | refine T_regionR Tt (by kernel_rfl) ?_ | refine T_drawR Tt N.view_View_arcs_d mixed (by kernel_rfl) ?_ | refine W_goN Tt rfl ?_ | refine W_nil ?_ | refine T_cond_true rfl ?_ | refine T_cond_false rfl ?_ | refine T_skip ?_ | refine T_ret ?_ | refine T_exit ?_ | refine T_block ?_ | with_reducible refine R_block ?_ | with_reducible refine R_then ?_ | with_reducible refine R_norm ?_ | with_reducible refine R_exitEq ?_ | refine R_exitNe ?_ | with_reducible refine R_thenX ?_ | with_reducible refine R_scopeX ?_ | with_reducible refine R_blockN ?_ | refine A_cmpY Tt ?_ | refine A_cmpN Tt ?_ | refine A_addN Tt ?_ | refine A_subN Tt ?_ | refine A_addW Tt ?_ | refine A_subW Tt ?_ | (refine A_cmp Tt ?_ ?_ <;> intro hc) | refine A_skip Tt ?_ | refine A_ldPts Tt ?_ | refine A_ldSl Tt ?_ | refine A_arr Tt ?_ | (refine S_ixN Tt (acc.length - 1) ?_) | refine S_ix Tt ?_ | refine S_ixA Tt ?_ | refine A_el Tt ?_ | refine A_el1 Tt ?_ | refine A_el2 Tt ?_ | refine A_store Tt ?_ | refine A_stEl Tt ?_ | (refine A_alloc Tt ?_; intro b) | (refine A_mk Tt ?_; intro b) | (refine A_app Tt ?_; intro a cp hwf) | (refine A_appNil Tt ?_; intro a cp hwf) | refine A_rem Tt ?_ | refine A_slc0 Tt ?_ | refine A_slc Tt ?_ | refine A_slcE Tt ?_ | (refine A_call Tt N.view_alike_is (sp_alike_yes (a := z) (b := p)) (hk) ?_; rintro v L ⟨rfl, rfl⟩ <;> dsimp only [List.cons_append, List.nil_append]) | fail)
        refine ⟨rfl, ⟨i + 1, some ⟨ab, aoff, none⟩, cp1, acc.length, flat pvC acc⟩, ⟨by dsimp only; omega, .inr ⟨ab, aoff, rfl, hale⟩, by dsimp only; rw [hct, e1], by dsimp only; rw [hct, e1]⟩, by dsimp only; omega, ⟨rfl, rfl, rfl, rfl, rfl, trivial⟩, _, takeS⟩
      · have e1 : compS acc p = acc ++ [p] := by unfold compS; rw [hgl]; simp [hk]
        repeat' (first | refine T_seq ?_ | refine T_regionR Tt (by kernel_rfl) ?_ | refine T_drawR Tt N.view_View_arcs_d mixed (by kernel_rfl) ?_ | refine W_goN Tt rfl ?_ | refine W_nil ?_ | refine T_cond_true rfl ?_ | refine T_cond_false rfl ?_ | refine T_skip ?_ | refine T_ret ?_ | refine T_exit ?_ | refine T_block ?_ | with_reducible refine R_block ?_ | with_reducible refine R_then ?_ | with_reducible refine R_norm ?_ | with_reducible refine R_exitEq ?_ | refine R_exitNe ?_ | with_reducible refine R_thenX ?_ | with_reducible refine R_scopeX ?_ | with_reducible refine R_blockN ?_ | refine A_cmpY Tt ?_ | refine A_cmpN Tt ?_ | refine A_addN Tt ?_ | refine A_subN Tt ?_ | refine A_addW Tt ?_ | refine A_subW Tt ?_ | (refine A_cmp Tt ?_ ?_ <;> intro hc) | refine A_skip Tt ?_ | refine A_ldPts Tt ?_ | refine A_ldSl Tt ?_ | refine A_arr Tt ?_ | (refine S_ixN Tt (acc.length - 1) ?_) | refine S_ix Tt ?_ | refine S_ixA Tt ?_ | refine A_el Tt ?_ | refine A_el1 Tt ?_ | refine A_el2 Tt ?_ | refine A_store Tt ?_ | refine A_stEl Tt ?_ | (refine A_alloc Tt ?_; intro b) | (refine A_mk Tt ?_; intro b) | (refine A_app Tt ?_; intro a cp hwf) | (refine A_appNil Tt ?_; intro a cp hwf) | refine A_rem Tt ?_ | refine A_slc0 Tt ?_ | refine A_slc Tt ?_ | refine A_slcE Tt ?_ | (refine A_call Tt N.view_alike_is (sp_alike_no (a := z) (b := p)) (hk) ?_; rintro v L ⟨rfl, rfl⟩ <;> dsimp only [List.cons_append, List.nil_append]) | fail)
        refine ⟨rfl, ⟨i + 1, _, _, acc.length + 1, flat pvC acc ++ pvC p⟩, ⟨by dsimp only; omega, hwf, by dsimp only; rw [hct, e1]; simp, by dsimp only; rw [hct, e1]; simp⟩, by dsimp only; omega, ⟨rfl, rfl, rfl, rfl, rfl, trivial⟩, _, takeS⟩
  · rw [List.take_of_length_le (by omega)] at hn1 hu1
    obtain ⟨l, hl⟩ : ∃ l, l = compL L := ⟨_, rfl⟩
    rw [← hl] at hn1 hu1 ⊢
    subst hn1; subst hu1
    have hll : l.length ≤ 100000 := by rw [hl]; have := comp_le L; omega
    have hlp : 0 < l.length := by rw [hl]; exact comp_pos hpos
    rcases hw1 with ⟨_, h0, _⟩ | ⟨ab, aoff, rfl, hale⟩
    · omega
    repeat' (first | refine T_seq ?_ | refine T_regionR Tt (by kernel_rfl) ?_ | refine T_drawR Tt N.view_View_arcs_d mixed (by kernel_rfl) ?_ | refine W_go Tt rfl ?_ | refine W_nil ?_ | refine T_cond_true rfl ?_ | refine T_cond_false rfl ?_ | refine T_skip ?_ | refine T_ret ?_ | refine T_exit ?_ | refine T_block ?_ | with_reducible refine R_block ?_ | with_reducible refine R_then ?_ | with_reducible refine R_norm ?_ | with_reducible refine R_exitEq ?_ | refine R_exitNe ?_ | with_reducible refine R_thenX ?_ | with_reducible refine R_scopeX ?_ | with_reducible refine R_blockN ?_ | refine A_cmpY Tt ?_ | refine A_cmpN Tt ?_ | (refine A_cmp Tt ?_ ?_ <;> intro hc) | refine A_skip Tt ?_ | refine A_ldPts Tt ?_ | refine A_ldSl Tt ?_ | refine A_arr Tt ?_ | refine S_ix Tt ?_ | refine S_ixA Tt ?_ | refine A_el Tt ?_ | refine A_el1 Tt ?_ | refine A_el2 Tt ?_ | refine A_store Tt ?_ | refine A_stEl Tt ?_ | (refine A_alloc Tt ?_; intro b) | (refine A_mk Tt ?_; intro b) | (refine A_app Tt ?_; intro a cp hwf) | (refine A_appNil Tt ?_; intro a cp hwf) | refine A_rem Tt ?_ | refine A_slc0 Tt ?_ | refine A_slc Tt ?_ | refine A_slcE Tt ?_ | fail)
    refine T_loopE (X := CX) (fun x => [(0, .pointer (some ⟨q, 0, none⟩)), (3, .slice (some ⟨ab, aoff, none⟩) l.length cp1), (6, .slice x.a x.n x.cp), (41, .slice (some ⟨ab, aoff, none⟩) l.length cp1), (42, .int .i64 l.length), (43, .int .i64 x.i)])
      (fun x => [pts q 0 [.slice a L.length cap], sl a L.length cap 3 (flat pvC L), sl (some ⟨ab, aoff, none⟩) l.length cp1 3 (flat pvC l), sl x.a x.n x.cp 4 x.us, fr]) (fun x => l.length + 1 - x.i) (fun x => x.i ≤ l.length ∧ wf x.a x.n x.cp ∧ x.n = (ownsN l x.i).length ∧ x.us = flat ownC (ownsN l x.i)) ⟨0, none, 0, 0, []⟩ ⟨by simp, .inl ⟨rfl, rfl, rfl⟩, by simp [ownsN], by simp [ownsN]⟩ (by exact ⟨rfl, rfl, rfl, rfl, rfl, rfl, trivial⟩) takeS ?_
    rintro ⟨j, a2, cp2, n2, us2⟩ d ⟨hj, hw2, hn2, hu2⟩
    dsimp only at hj hw2 hn2 hu2 ⊢
    by_cases hjl : j < l.length
    · obtain ⟨p, hp⟩ : ∃ x, l[j]? = some x := ⟨_, List.getElem?_eq_getElem hjl⟩
      have hml : (j + 1) % l.length < l.length := Nat.mod_lt _ hlp
      obtain ⟨nx, hnx⟩ : ∃ x, l[(j + 1) % l.length]? = some x := ⟨_, List.getElem?_eq_getElem hml⟩
      have htm : ((j : Int) + 1).tmod (l.length : Int) = (((j + 1) % l.length : Nat) : Int) := by
        rw [Int.tmod_eq_emod_of_nonneg (by omega)]; norm_cast
      obtain ⟨o, ho⟩ : ∃ c, c = ownsN l j := ⟨_, rfl⟩
      have hot := owns_take hp
      have hol := owns_len l j
      rw [← ho] at hn2 hu2 hot hol
      subst hn2; subst hu2
      by_cases hnode : 0 ≤ p.node
      · have e1 : ownOf l (p, j) = some ⟨p.f, nx.f, p.node, p.ep⟩ := by unfold ownOf; rw [if_pos hnode]; dsimp only; rw [hnx]; rfl
        rw [e1] at hot
        repeat' (first | refine T_seq ?_ | refine T_regionR Tt (by kernel_rfl) ?_ | refine T_drawR Tt N.view_View_arcs_d mixed (by kernel_rfl) ?_ | refine W_goN Tt rfl ?_ | refine W_nil ?_ | refine T_cond_true rfl ?_ | refine T_cond_false rfl ?_ | refine T_skip ?_ | refine T_ret ?_ | refine T_exit ?_ | refine T_block ?_ | with_reducible refine R_block ?_ | with_reducible refine R_then ?_ | with_reducible refine R_norm ?_ | with_reducible refine R_exitEq ?_ | refine R_exitNe ?_ | with_reducible refine R_thenX ?_ | with_reducible refine R_scopeX ?_ | with_reducible refine R_blockN ?_ | refine A_cmpY Tt ?_ | refine A_cmpN Tt ?_ | refine A_addN Tt ?_ | refine A_subN Tt ?_ | refine A_addW Tt ?_ | refine A_subW Tt ?_ | (refine A_cmp Tt ?_ ?_ <;> intro hc) | refine A_skip Tt ?_ | refine A_ldPts Tt ?_ | refine A_ldSl Tt ?_ | refine A_arr Tt ?_ | (refine S_ixN Tt ((j + 1) % l.length) (hj := htm) ?_) | (refine S_ixN Tt j ?_) | refine S_ix Tt ?_ | refine S_ixA Tt ?_ | refine A_el Tt ?_ | refine A_el1 Tt ?_ | refine A_el2 Tt ?_ | refine A_store Tt ?_ | refine A_stEl Tt ?_ | (refine A_alloc Tt ?_; intro b) | (refine A_mk Tt ?_; intro b) | (refine A_app Tt ?_; intro a cp hwf) | (refine A_appNil Tt ?_; intro a cp hwf) | refine A_rem Tt ?_ | refine A_slc0 Tt ?_ | refine A_slc Tt ?_ | refine A_slcE Tt ?_ | fail)
        refine ⟨rfl, ⟨j + 1, _, _, o.length + 1, flat ownC o ++ ownC ⟨p.f, nx.f, p.node, p.ep⟩⟩, ⟨by dsimp only; omega, hwf, by dsimp only; rw [hot]; simp, by dsimp only; rw [hot]; simp⟩, by dsimp only; omega, ⟨rfl, rfl, rfl, rfl, rfl, rfl, trivial⟩, _, takeS⟩
      · have e1 : ownOf l (p, j) = none := by unfold ownOf; rw [if_neg hnode]
        rw [e1] at hot
        repeat' (first | refine T_seq ?_ | refine T_regionR Tt (by kernel_rfl) ?_ | refine T_drawR Tt N.view_View_arcs_d mixed (by kernel_rfl) ?_ | refine W_goN Tt rfl ?_ | refine W_nil ?_ | refine T_cond_true rfl ?_ | refine T_cond_false rfl ?_ | refine T_skip ?_ | refine T_ret ?_ | refine T_exit ?_ | refine T_block ?_ | with_reducible refine R_block ?_ | with_reducible refine R_then ?_ | with_reducible refine R_norm ?_ | with_reducible refine R_exitEq ?_ | refine R_exitNe ?_ | with_reducible refine R_thenX ?_ | with_reducible refine R_scopeX ?_ | with_reducible refine R_blockN ?_ | refine A_cmpY Tt ?_ | refine A_cmpN Tt ?_ | refine A_addN Tt ?_ | refine A_subN Tt ?_ | refine A_addW Tt ?_ | refine A_subW Tt ?_ | (refine A_cmp Tt ?_ ?_ <;> intro hc) | refine A_skip Tt ?_ | refine A_ldPts Tt ?_ | refine A_ldSl Tt ?_ | refine A_arr Tt ?_ | (refine S_ixN Tt ((j + 1) % l.length) (hj := htm) ?_) | (refine S_ixN Tt j ?_) | refine S_ix Tt ?_ | refine S_ixA Tt ?_ | refine A_el Tt ?_ | refine A_el1 Tt ?_ | refine A_el2 Tt ?_ | refine A_store Tt ?_ | refine A_stEl Tt ?_ | (refine A_alloc Tt ?_; intro b) | (refine A_mk Tt ?_; intro b) | (refine A_app Tt ?_; intro a cp hwf) | (refine A_appNil Tt ?_; intro a cp hwf) | refine A_rem Tt ?_ | refine A_slc0 Tt ?_ | refine A_slc Tt ?_ | refine A_slcE Tt ?_ | fail)
        refine ⟨rfl, ⟨j + 1, a2, cp2, o.length, flat ownC o⟩, ⟨by dsimp only; omega, hw2, by dsimp only; rw [hot]; simp, by dsimp only; rw [hot]; simp⟩, by dsimp only; omega, ⟨rfl, rfl, rfl, rfl, rfl, rfl, trivial⟩, _, takeS⟩
    · have hje : j = l.length := by omega
      subst hje
      rw [owns_all] at hn2 hu2
      obtain ⟨o, ho⟩ : ∃ c, c = ownsL l := ⟨_, rfl⟩
      have hol := owns_len l l.length
      rw [owns_all] at hol
      have hwt := fun h => wraps_two (l := l) h
      rw [← ho] at hn2 hu2 hol hwt ⊢
      subst hn2; subst hu2
      obtain ⟨x0, hx0⟩ : ∃ x, l[0]? = some x := ⟨_, List.getElem?_eq_getElem hlp⟩
      obtain ⟨x1, hx1⟩ : ∃ x, l[l.length - 1]? = some x := ⟨_, List.getElem?_eq_getElem (by omega)⟩
      by_cases h1 : 1 < l.length
      · by_cases hnode : 0 ≤ x0.node
        · by_cases hk : alikeP x0 x1
          · have hwr : wraps l := ⟨x0, x1, h1, hx0, hx1, hnode, hk⟩
            have h2 := hwt hwr
            rcases hw2 with ⟨_, h0, _⟩ | ⟨ob, ooff, rfl, hole⟩
            · omega
            obtain ⟨o0, ho0⟩ : ∃ x, o[0]? = some x := ⟨_, List.getElem?_eq_getElem (by omega)⟩
            obtain ⟨o1, ho1⟩ : ∃ x, o[o.length - 1]? = some x := ⟨_, List.getElem?_eq_getElem (by omega)⟩
            have e3 : splice (flat ownC o) ((o.length - 1) * 4 + 1) [.int .u64 o0.t] = flat ownC (o.set (o.length - 1) { o1 with t := o0.t }) := flat_splice (by infer_instance) ho1 (by simp) rfl
            have ej : joinO o = (o.set (o.length - 1) { o1 with t := o0.t }).drop 1 := by
              unfold joinO; simp only [List.getD_eq_getElem?_getD, ho0, ho1, Option.getD_some]
            repeat' (first | refine T_seq ?_ | refine T_regionR Tt (by kernel_rfl) ?_ | refine T_drawR Tt N.view_View_arcs_d mixed (by kernel_rfl) ?_ | refine W_goN Tt rfl ?_ | refine W_nil ?_ | refine T_cond_true rfl ?_ | refine T_cond_false rfl ?_ | refine T_skip ?_ | refine T_ret ?_ | refine T_exit ?_ | refine T_block ?_ | with_reducible refine R_block ?_ | with_reducible refine R_then ?_ | with_reducible refine R_norm ?_ | with_reducible refine R_exitEq ?_ | refine R_exitNe ?_ | with_reducible refine R_thenX ?_ | with_reducible refine R_scopeX ?_ | with_reducible refine R_blockN ?_ | refine A_cmpY Tt ?_ | refine A_cmpN Tt ?_ | refine A_addN Tt ?_ | refine A_subN Tt ?_ | refine A_addW Tt ?_ | refine A_subW Tt ?_ | (refine A_cmp Tt ?_ ?_ <;> intro hc) | refine A_skip Tt ?_ | refine A_ldPts Tt ?_ | refine A_ldSl Tt ?_ | refine A_arr Tt ?_ | (refine S_ixN Tt 0 ?_) | (refine S_ixN Tt (l.length - 1) ?_) | (refine S_ixN Tt (o.length - 1) ?_) | refine S_ix Tt ?_ | refine S_ixA Tt ?_ | refine A_el Tt ?_ | refine A_el1 Tt ?_ | refine A_el2 Tt ?_ | refine A_store Tt ?_ | refine A_stEl Tt ?_ | (refine A_alloc Tt ?_; intro b) | (refine A_mk Tt ?_; intro b) | (refine A_app Tt ?_; intro a cp hwf) | (refine A_appNil Tt ?_; intro a cp hwf) | refine A_rem Tt ?_ | (refine A_call Tt N.view_alike_is (sp_alike_yes (a := x0) (b := x1)) (hk) ?_; rintro v L ⟨rfl, rfl⟩ <;> dsimp only [List.cons_append, List.nil_append]) | (refine A_slcN Tt 1 o.length cp2 ?_) | fail)
            (change bodyQ PP _ [fr] _ _ _ _ _; refine ⟨rfl, _, _, _, (.tmp .nil), .inr ⟨hwr, ob, ooff, cp2, o.set (o.length - 1) { o1 with t := o0.t }, by omega, hole, by simp, ej, rfl, congrArg (fun z => [sl (some ⟨ob, ooff, none⟩) o.length cp2 4 z, pts q 0 [.slice a L.length cap], sl a L.length cap 3 (flat pvC L)]) e3⟩, takeS⟩)
          · have hwr : ¬ wraps l := by
              rintro ⟨a, b, _, ha, hb, _, hk'⟩
              rw [hx0] at ha; rw [hx1] at hb
              obtain rfl := Option.some.inj ha; obtain rfl := Option.some.inj hb
              exact hk hk'
            repeat' (first | refine T_seq ?_ | refine T_regionR Tt (by kernel_rfl) ?_ | refine T_drawR Tt N.view_View_arcs_d mixed (by kernel_rfl) ?_ | refine W_goN Tt rfl ?_ | refine W_nil ?_ | refine T_cond_true rfl ?_ | refine T_cond_false rfl ?_ | refine T_skip ?_ | refine T_ret ?_ | refine T_exit ?_ | refine T_block ?_ | with_reducible refine R_block ?_ | with_reducible refine R_then ?_ | with_reducible refine R_norm ?_ | with_reducible refine R_exitEq ?_ | refine R_exitNe ?_ | with_reducible refine R_thenX ?_ | with_reducible refine R_scopeX ?_ | with_reducible refine R_blockN ?_ | refine A_cmpY Tt ?_ | refine A_cmpN Tt ?_ | refine A_addN Tt ?_ | refine A_subN Tt ?_ | refine A_addW Tt ?_ | refine A_subW Tt ?_ | (refine A_cmp Tt ?_ ?_ <;> intro hc) | refine A_skip Tt ?_ | refine A_ldPts Tt ?_ | refine A_ldSl Tt ?_ | refine A_arr Tt ?_ | (refine S_ixN Tt 0 ?_) | (refine S_ixN Tt (l.length - 1) ?_) | refine S_ix Tt ?_ | refine S_ixA Tt ?_ | refine A_el Tt ?_ | refine A_el1 Tt ?_ | refine A_el2 Tt ?_ | refine A_store Tt ?_ | refine A_stEl Tt ?_ | (refine A_alloc Tt ?_; intro b) | (refine A_mk Tt ?_; intro b) | (refine A_app Tt ?_; intro a cp hwf) | (refine A_appNil Tt ?_; intro a cp hwf) | refine A_rem Tt ?_ | refine A_slc0 Tt ?_ | refine A_slc Tt ?_ | refine A_slcE Tt ?_ | (refine A_call Tt N.view_alike_is (sp_alike_no (a := x0) (b := x1)) (hk) ?_; rintro v L ⟨rfl, rfl⟩ <;> dsimp only [List.cons_append, List.nil_append]) | fail)
            (change bodyQ PP _ [fr] _ _ _ _ _; refine ⟨rfl, _, _, _, (.tmp .nil), .inl ⟨hwr, _, _, hw2, rfl, rfl⟩, takeS⟩)
        · have hwr : ¬ wraps l := by
            rintro ⟨a, b, _, ha, _, hn, _⟩
            rw [hx0] at ha
            obtain rfl := Option.some.inj ha
            exact hnode hn
          repeat' (first | refine T_seq ?_ | refine T_regionR Tt (by kernel_rfl) ?_ | refine T_drawR Tt N.view_View_arcs_d mixed (by kernel_rfl) ?_ | refine W_goN Tt rfl ?_ | refine W_nil ?_ | refine T_cond_true rfl ?_ | refine T_cond_false rfl ?_ | refine T_skip ?_ | refine T_ret ?_ | refine T_exit ?_ | refine T_block ?_ | with_reducible refine R_block ?_ | with_reducible refine R_then ?_ | with_reducible refine R_norm ?_ | with_reducible refine R_exitEq ?_ | refine R_exitNe ?_ | with_reducible refine R_thenX ?_ | with_reducible refine R_scopeX ?_ | with_reducible refine R_blockN ?_ | refine A_cmpY Tt ?_ | refine A_cmpN Tt ?_ | refine A_addN Tt ?_ | refine A_subN Tt ?_ | refine A_addW Tt ?_ | refine A_subW Tt ?_ | (refine A_cmp Tt ?_ ?_ <;> intro hc) | refine A_skip Tt ?_ | refine A_ldPts Tt ?_ | refine A_ldSl Tt ?_ | refine A_arr Tt ?_ | (refine S_ixN Tt 0 ?_) | refine S_ix Tt ?_ | refine S_ixA Tt ?_ | refine A_el Tt ?_ | refine A_el1 Tt ?_ | refine A_el2 Tt ?_ | refine A_store Tt ?_ | refine A_stEl Tt ?_ | (refine A_alloc Tt ?_; intro b) | (refine A_mk Tt ?_; intro b) | (refine A_app Tt ?_; intro a cp hwf) | (refine A_appNil Tt ?_; intro a cp hwf) | refine A_rem Tt ?_ | refine A_slc0 Tt ?_ | refine A_slc Tt ?_ | refine A_slcE Tt ?_ | fail)
          (change bodyQ PP _ [fr] _ _ _ _ _; refine ⟨rfl, _, _, _, (.tmp .nil), .inl ⟨hwr, _, _, hw2, rfl, rfl⟩, takeS⟩)
      · have hwr : ¬ wraps l := by
          rintro ⟨_, _, h, _⟩
          exact h1 h
        repeat' (first | refine T_seq ?_ | refine T_regionR Tt (by kernel_rfl) ?_ | refine T_drawR Tt N.view_View_arcs_d mixed (by kernel_rfl) ?_ | refine W_goN Tt rfl ?_ | refine W_nil ?_ | refine T_cond_true rfl ?_ | refine T_cond_false rfl ?_ | refine T_skip ?_ | refine T_ret ?_ | refine T_exit ?_ | refine T_block ?_ | with_reducible refine R_block ?_ | with_reducible refine R_then ?_ | with_reducible refine R_norm ?_ | with_reducible refine R_exitEq ?_ | refine R_exitNe ?_ | with_reducible refine R_thenX ?_ | with_reducible refine R_scopeX ?_ | with_reducible refine R_blockN ?_ | refine A_cmpY Tt ?_ | refine A_cmpN Tt ?_ | refine A_addN Tt ?_ | refine A_subN Tt ?_ | refine A_addW Tt ?_ | refine A_subW Tt ?_ | (refine A_cmp Tt ?_ ?_ <;> intro hc) | refine A_skip Tt ?_ | refine A_ldPts Tt ?_ | refine A_ldSl Tt ?_ | refine A_arr Tt ?_ | refine S_ix Tt ?_ | refine S_ixA Tt ?_ | refine A_el Tt ?_ | refine A_el1 Tt ?_ | refine A_el2 Tt ?_ | refine A_store Tt ?_ | refine A_stEl Tt ?_ | (refine A_alloc Tt ?_; intro b) | (refine A_mk Tt ?_; intro b) | (refine A_app Tt ?_; intro a cp hwf) | (refine A_appNil Tt ?_; intro a cp hwf) | refine A_rem Tt ?_ | refine A_slc0 Tt ?_ | refine A_slc Tt ?_ | refine A_slcE Tt ?_ | fail)
        (change bodyQ PP _ [fr] _ _ _ _ _; refine ⟨rfl, _, _, _, (.tmp .nil), .inl ⟨hwr, _, _, hw2, rfl, rfl⟩, takeS⟩)
end Go.Rz

/- view: All. -/
open Go Go.Rz
set_option maxRecDepth 4000
namespace Go.Rz
def owStp (L : List Ow) (i : Nat) (vals : List Value) (i' : Nat) : Prop := ∃ x, L[i]? = some x ∧ vals = [ownV x] ∧ i' = i + 1
theorem iter_All {B : Base} {vb q : Nat} {a : Option Addr} {cap : Nat} {L : List Pv} (h0 : wf a L.length cap ∧ L.length ≤ 100000 ∧ 0 < L.length) :
    Iter PP B N.view_View_All_1 #[] #[.pointer (some ⟨vb, 0, none⟩)] (owStp (arcsL L)) 0 [pts vb 0 [.pointer (some ⟨q, 0, none⟩)], pts q 0 [.slice a L.length cap], sl a L.length cap 3 (flat pvC L)]
      (fun i A' => i = (arcsL L).length ∧ A' = [pts q 0 [.slice a L.length cap], sl a L.length cap 3 (flat pvC L)]) (fun i A' => A' = [pts q 0 [.slice a L.length cap], sl a L.length cap 3 (flat pvC L)]) := by
  refine Iter.of fun Y J X hY => ?_
  have hal := arcs_le L
  have hac := sp_arcs (B := B) (q := q) (a := a) (cap := cap) (L := L) h0
  obtain ⟨o, ho⟩ : ∃ o, o = arcsL L := ⟨_, rfl⟩
  rw [← ho] at hac hal hY ⊢
  refine Fn.mono (Ps := fun v M => (v = .tuple #[] ∧ M = [pts q 0 [.slice a L.length cap], sl a L.length cap 3 (flat pvC L), J o.length]) ∨ (v = .tuple #[] ∧ ∃ i, M = [pts q 0 [.slice a L.length cap], sl a L.length cap 3 (flat pvC L), X i])) ?_ ?_
  rotate_left
  · rintro v M (⟨-, rfl⟩ | ⟨-, i, rfl⟩)
    · exact ⟨_, _, .inl ⟨⟨rfl, rfl⟩, rfl⟩⟩
    · exact ⟨_, i, .inr ⟨rfl, rfl⟩⟩
  refine Fn_of N.view_View_All_1_f rfl rfl fun fr => ?_
  try dsimp only [List.append_eq, List.cons_append, List.nil_append]
  repeat' (first | refine T_seq ?_ | refine T_regionR Tt (by kernel_rfl) ?_ | refine W_go Tt rfl ?_ | refine W_nil ?_ | refine T_cond_true rfl ?_ | refine T_cond_false rfl ?_ | refine T_skip ?_ | refine T_ret ?_ | refine T_exit ?_ | refine T_block ?_ | with_reducible refine R_block ?_ | with_reducible refine R_then ?_ | with_reducible refine R_norm ?_ | with_reducible refine R_exitEq ?_ | refine R_exitNe ?_ | with_reducible refine R_thenX ?_ | with_reducible refine R_scopeX ?_ | with_reducible refine R_blockN ?_ | refine A_cmpT Tt ?_ | refine A_cmpF Tt ?_ | (refine A_cmp Tt ?_ ?_ <;> intro hc) | refine A_ldPts Tt ?_ | refine A_ldSl Tt ?_ | refine S_ix Tt ?_ | refine S_ixA Tt ?_ | refine A_el Tt ?_ | refine A_el1 Tt ?_ | refine A_el2 Tt ?_ | refine A_store Tt ?_ | refine A_stEl Tt ?_ | (refine A_alloc Tt ?_; intro b) | (refine A_call Tt N.view_View_arcs_is (fun _ => hac) (trivial) ?_; rintro v L ⟨ra, rc, hrw, rfl, rfl⟩ <;> dsimp only [List.cons_append, List.nil_append]) | fail)
  refine T_loopE (X := Nat) (fun i => [(0, Y), (6, .slice ra o.length rc), (7, .int .i64 o.length), (8, .int .i64 i)])
    (fun i => [pts q 0 [.slice a L.length cap], sl a L.length cap 3 (flat pvC L), sl ra o.length rc 4 (flat ownC o), J i, fr])
    (fun i => o.length + 1 - i) (fun i => i ≤ o.length) 0 (by omega) (by exact ⟨rfl, rfl, rfl, rfl, trivial⟩) takeS ?_
  rintro i d hi
  by_cases hlt : i < o.length
  · rcases hrw with ⟨rfl, h0, rfl⟩ | ⟨ib, off, rfl, hle⟩
    · omega
    obtain ⟨x, hx⟩ : ∃ x, o[i]? = some x := ⟨_, List.getElem?_eq_getElem hlt⟩
    have hst := hY _ _ _ ⟨x, hx, rfl, rfl⟩
    repeat' (first | refine T_seq ?_ | refine T_regionR Tt (by kernel_rfl) ?_ | refine W_go Tt rfl ?_ | refine W_nil ?_ | refine T_cond_true rfl ?_ | refine T_cond_false rfl ?_ | refine T_skip ?_ | refine T_ret ?_ | refine T_exit ?_ | refine T_block ?_ | with_reducible refine R_block ?_ | with_reducible refine R_then ?_ | with_reducible refine R_norm ?_ | with_reducible refine R_exitEq ?_ | refine R_exitNe ?_ | with_reducible refine R_thenX ?_ | with_reducible refine R_scopeX ?_ | with_reducible refine R_blockN ?_ | refine A_cmpY Tt ?_ | refine A_cmpN Tt ?_ | (refine A_cmp Tt ?_ ?_ <;> intro hc) | refine A_ldPts Tt ?_ | refine A_ldSl Tt ?_ | refine S_ix Tt ?_ | refine S_ixA Tt ?_ | refine A_el Tt ?_ | refine A_el1 Tt ?_ | refine A_el2 Tt ?_ | refine A_store Tt ?_ | refine A_stEl Tt ?_ | (refine A_alloc Tt ?_; intro b) | (refine A_callV Tt (fun _ => hst) True.intro ?_; rintro v L (⟨rfl, rfl⟩ | ⟨rfl, rfl⟩) <;> dsimp only [List.cons_append, List.nil_append]) | fail)
    · refine ⟨rfl, i + 1, by omega, by omega, ⟨rfl, rfl, rfl, inc_ok (by omega), trivial⟩, _, takeS⟩
    · (change bodyQ PP _ [fr] _ _ _ _ _; refine ⟨rfl, _, _, _, .nil, .inr ⟨rfl, _, rfl⟩, takeS⟩)
  · have hie : i = o.length := by omega
    subst hie
    repeat' (first | refine T_seq ?_ | refine T_regionR Tt (by kernel_rfl) ?_ | refine W_go Tt rfl ?_ | refine W_nil ?_ | refine T_cond_true rfl ?_ | refine T_cond_false rfl ?_ | refine T_skip ?_ | refine T_ret ?_ | refine T_exit ?_ | refine T_block ?_ | with_reducible refine R_block ?_ | with_reducible refine R_then ?_ | with_reducible refine R_norm ?_ | with_reducible refine R_exitEq ?_ | refine R_exitNe ?_ | with_reducible refine R_thenX ?_ | with_reducible refine R_scopeX ?_ | with_reducible refine R_blockN ?_ | refine A_cmpY Tt ?_ | refine A_cmpN Tt ?_ | (refine A_cmp Tt ?_ ?_ <;> intro hc) | refine A_ldPts Tt ?_ | refine A_ldSl Tt ?_ | refine S_ix Tt ?_ | refine S_ixA Tt ?_ | refine A_el Tt ?_ | refine A_el1 Tt ?_ | refine A_el2 Tt ?_ | refine A_store Tt ?_ | refine A_stEl Tt ?_ | (refine A_alloc Tt ?_; intro b) | fail)
    (change bodyQ PP _ [fr] _ _ _ _ _; refine ⟨rfl, _, _, _, .nil, .inl ⟨rfl, rfl⟩, takeS⟩)
theorem arcs_nil : arcsL [] = [] := by
  unfold arcsL
  rw [if_neg (by rintro ⟨a, b, h, -⟩; simp [compL] at h)]
  rfl
theorem sp_arcs0 {B : Base} {q : Nat} : True →
    Fn PP B N.view_View_arcs [.pointer (some ⟨q, 0, none⟩)] [pts q 0 [.slice none 0 0], sl none 0 0 3 []] (fun v M => v = .slice none 0 0 ∧ M = [pts q 0 [.slice none 0 0], sl none 0 0 3 []]) := by
  intro _
  refine Fn_of N.view_View_arcs_f rfl rfl fun fr => ?_
  try dsimp only [List.append_eq, List.cons_append, List.nil_append]
  repeat' (first | refine T_seq ?_ | refine T_regionR Tt (by kernel_rfl) ?_ | refine T_drawR Tt N.view_View_arcs_d mixed (by kernel_rfl) ?_ | refine W_go Tt rfl ?_ | refine W_nil ?_ | refine T_cond_true rfl ?_ | refine T_cond_false rfl ?_ | refine T_skip ?_ | refine T_ret ?_ | refine T_exit ?_ | refine T_block ?_ | with_reducible refine R_block ?_ | with_reducible refine R_then ?_ | with_reducible refine R_norm ?_ | with_reducible refine R_exitEq ?_ | refine R_exitNe ?_ | with_reducible refine R_thenX ?_ | with_reducible refine R_scopeX ?_ | with_reducible refine R_blockN ?_ | refine A_cmpT Tt ?_ | refine A_cmpF Tt ?_ | (refine A_cmp Tt ?_ ?_ <;> intro hc) | refine A_skip Tt ?_ | refine A_ldPts Tt ?_ | refine A_ldSl Tt ?_ | refine A_arr Tt ?_ | refine S_ix Tt ?_ | refine S_ixA Tt ?_ | refine A_el Tt ?_ | refine A_el1 Tt ?_ | refine A_el2 Tt ?_ | refine A_store Tt ?_ | refine A_stEl Tt ?_ | (refine A_alloc Tt ?_; intro b) | (refine A_mk Tt ?_; intro b) | (refine A_app Tt ?_; intro a cp hwf) | (refine A_appNil Tt ?_; intro a cp hwf) | refine A_rem Tt ?_ | refine A_slc0 Tt ?_ | refine A_slc Tt ?_ | refine A_slcE Tt ?_ | fail)
  refine T_loopE (X := Unit) (fun _ => [(0, .pointer (some ⟨q, 0, none⟩)), (3, .slice none 0 0), (16, .slice none 0 0), (17, .int .i64 0), (18, .int .i64 0)])
    (fun _ => [pts q 0 [.slice none 0 0], sl none 0 0 3 [], fr]) (fun _ => 0) (fun _ => True) () trivial (by exact ⟨rfl, rfl, rfl, rfl, rfl, trivial⟩) takeS ?_
  rintro - d -
  repeat' (first | refine T_seq ?_ | refine T_regionR Tt (by kernel_rfl) ?_ | refine T_drawR Tt N.view_View_arcs_d mixed (by kernel_rfl) ?_ | refine W_go Tt rfl ?_ | refine W_nil ?_ | refine T_cond_true rfl ?_ | refine T_cond_false rfl ?_ | refine T_skip ?_ | refine T_ret ?_ | refine T_exit ?_ | refine T_block ?_ | with_reducible refine R_block ?_ | with_reducible refine R_then ?_ | with_reducible refine R_norm ?_ | with_reducible refine R_exitEq ?_ | refine R_exitNe ?_ | with_reducible refine R_thenX ?_ | with_reducible refine R_scopeX ?_ | with_reducible refine R_blockN ?_ | refine A_cmpT Tt ?_ | refine A_cmpF Tt ?_ | (refine A_cmp Tt ?_ ?_ <;> intro hc) | refine A_skip Tt ?_ | refine A_ldPts Tt ?_ | refine A_ldSl Tt ?_ | refine A_arr Tt ?_ | refine S_ix Tt ?_ | refine S_ixA Tt ?_ | refine A_el Tt ?_ | refine A_el1 Tt ?_ | refine A_el2 Tt ?_ | refine A_store Tt ?_ | refine A_stEl Tt ?_ | (refine A_alloc Tt ?_; intro b) | (refine A_mk Tt ?_; intro b) | (refine A_app Tt ?_; intro a cp hwf) | (refine A_appNil Tt ?_; intro a cp hwf) | refine A_rem Tt ?_ | refine A_slc0 Tt ?_ | refine A_slc Tt ?_ | refine A_slcE Tt ?_ | fail)
  refine T_loopE (X := Unit) (fun _ => [(0, .pointer (some ⟨q, 0, none⟩)), (3, .slice none 0 0), (6, .slice none 0 0), (41, .slice none 0 0), (42, .int .i64 0), (43, .int .i64 0)])
    (fun _ => [pts q 0 [.slice none 0 0], sl none 0 0 3 [], fr]) (fun _ => 0) (fun _ => True) () trivial (by exact ⟨rfl, rfl, rfl, rfl, rfl, rfl, trivial⟩) takeS ?_
  rintro - d -
  repeat' (first | refine T_seq ?_ | refine T_regionR Tt (by kernel_rfl) ?_ | refine T_drawR Tt N.view_View_arcs_d mixed (by kernel_rfl) ?_ | refine W_goN Tt rfl ?_ | refine W_nil ?_ | refine T_cond_true rfl ?_ | refine T_cond_false rfl ?_ | refine T_skip ?_ | refine T_ret ?_ | refine T_exit ?_ | refine T_block ?_ | with_reducible refine R_block ?_ | with_reducible refine R_then ?_ | with_reducible refine R_norm ?_ | with_reducible refine R_exitEq ?_ | refine R_exitNe ?_ | with_reducible refine R_thenX ?_ | with_reducible refine R_scopeX ?_ | with_reducible refine R_blockN ?_ | refine A_cmpY Tt ?_ | refine A_cmpN Tt ?_ | refine A_addN Tt ?_ | refine A_subN Tt ?_ | refine A_addW Tt ?_ | refine A_subW Tt ?_ | (refine A_cmp Tt ?_ ?_ <;> intro hc) | refine A_skip Tt ?_ | refine A_ldPts Tt ?_ | refine A_ldSl Tt ?_ | refine A_arr Tt ?_ | refine S_ix Tt ?_ | refine S_ixA Tt ?_ | refine A_el Tt ?_ | refine A_el1 Tt ?_ | refine A_el2 Tt ?_ | refine A_store Tt ?_ | refine A_stEl Tt ?_ | (refine A_alloc Tt ?_; intro b) | (refine A_mk Tt ?_; intro b) | (refine A_app Tt ?_; intro a cp hwf) | (refine A_appNil Tt ?_; intro a cp hwf) | refine A_rem Tt ?_ | refine A_slc0 Tt ?_ | refine A_slc Tt ?_ | refine A_slcE Tt ?_ | fail)
  (change bodyQ PP _ [fr] _ _ _ _ _; refine ⟨rfl, _, _, _, (.tmp .nil), ⟨rfl, rfl⟩, takeS⟩)
theorem iter_All0 {B : Base} {vb q : Nat} :
    Iter PP B N.view_View_All_1 #[] #[.pointer (some ⟨vb, 0, none⟩)] (owStp []) 0 [pts vb 0 [.pointer (some ⟨q, 0, none⟩)], pts q 0 [.slice none 0 0], sl none 0 0 3 []] (fun i A' => i = 0 ∧ A' = [pts q 0 [.slice none 0 0], sl none 0 0 3 []]) (fun i A' => A' = [pts q 0 [.slice none 0 0], sl none 0 0 3 []]) := by
  refine Iter.of fun Y J X hY => ?_
  refine Fn.mono (Ps := fun v M => v = .tuple #[] ∧ M = [pts q 0 [.slice none 0 0], sl none 0 0 3 [], J 0]) ?_ (by rintro v M ⟨-, rfl⟩; exact ⟨_, _, .inl ⟨⟨rfl, rfl⟩, rfl⟩⟩)
  refine Fn_of N.view_View_All_1_f rfl rfl fun fr => ?_
  try dsimp only [List.append_eq, List.cons_append, List.nil_append]
  repeat' (first | refine T_seq ?_ | refine T_regionR Tt (by kernel_rfl) ?_ | refine W_go Tt rfl ?_ | refine W_nil ?_ | refine T_cond_true rfl ?_ | refine T_cond_false rfl ?_ | refine T_skip ?_ | refine T_ret ?_ | refine T_exit ?_ | refine T_block ?_ | with_reducible refine R_block ?_ | with_reducible refine R_then ?_ | with_reducible refine R_norm ?_ | with_reducible refine R_exitEq ?_ | refine R_exitNe ?_ | with_reducible refine R_thenX ?_ | with_reducible refine R_scopeX ?_ | with_reducible refine R_blockN ?_ | refine A_cmpT Tt ?_ | refine A_cmpF Tt ?_ | (refine A_cmp Tt ?_ ?_ <;> intro hc) | refine A_ldPts Tt ?_ | refine A_ldSl Tt ?_ | refine S_ix Tt ?_ | refine S_ixA Tt ?_ | refine A_el Tt ?_ | refine A_el1 Tt ?_ | refine A_el2 Tt ?_ | refine A_store Tt ?_ | refine A_stEl Tt ?_ | (refine A_alloc Tt ?_; intro b) | (refine A_call Tt N.view_View_arcs_is (sp_arcs0) (trivial) ?_; rintro v L ⟨rfl, rfl⟩ <;> dsimp only [List.cons_append, List.nil_append]) | fail)
  refine T_loopE (X := Unit) (fun i => [(0, Y), (6, .slice none 0 0), (7, .int .i64 0), (8, .int .i64 0)]) (fun i => [pts q 0 [.slice none 0 0], sl none 0 0 3 [], J 0, fr]) (fun i => 0) (fun i => True) () trivial (by exact ⟨rfl, rfl, rfl, rfl, trivial⟩) takeS ?_
  rintro - d -
  repeat' (first | refine T_seq ?_ | refine T_regionR Tt (by kernel_rfl) ?_ | refine W_go Tt rfl ?_ | refine W_nil ?_ | refine T_cond_true rfl ?_ | refine T_cond_false rfl ?_ | refine T_skip ?_ | refine T_ret ?_ | refine T_exit ?_ | refine T_block ?_ | with_reducible refine R_block ?_ | with_reducible refine R_then ?_ | with_reducible refine R_norm ?_ | with_reducible refine R_exitEq ?_ | refine R_exitNe ?_ | with_reducible refine R_thenX ?_ | with_reducible refine R_scopeX ?_ | with_reducible refine R_blockN ?_ | refine A_cmpY Tt ?_ | refine A_cmpN Tt ?_ | (refine A_cmp Tt ?_ ?_ <;> intro hc) | refine A_ldPts Tt ?_ | refine A_ldSl Tt ?_ | refine S_ix Tt ?_ | refine S_ixA Tt ?_ | refine A_el Tt ?_ | refine A_el1 Tt ?_ | refine A_el2 Tt ?_ | refine A_store Tt ?_ | refine A_stEl Tt ?_ | (refine A_alloc Tt ?_; intro b) | fail)
  (change bodyQ PP _ [fr] _ _ _ _ _; refine ⟨rfl, _, _, _, .nil, ⟨rfl, rfl⟩, takeS⟩)
theorem iter_AllG {B : Base} {vb q : Nat} {a : Option Addr} {cap : Nat} {L : List Pv} (h0 : wf a L.length cap ∧ L.length ≤ 100000 ∧ (L.length = 0 → a = none ∧ cap = 0)) :
    Iter PP B N.view_View_All_1 #[] #[.pointer (some ⟨vb, 0, none⟩)] (owStp (arcsL L)) 0 [pts vb 0 [.pointer (some ⟨q, 0, none⟩)], pts q 0 [.slice a L.length cap], sl a L.length cap 3 (flat pvC L)]
      (fun i A' => i = (arcsL L).length ∧ A' = [pts q 0 [.slice a L.length cap], sl a L.length cap 3 (flat pvC L)]) (fun i A' => A' = [pts q 0 [.slice a L.length cap], sl a L.length cap 3 (flat pvC L)]) := by
  obtain ⟨h1, h2, h3⟩ := h0
  by_cases h : L.length = 0
  · obtain ⟨rfl, rfl⟩ := h3 h
    obtain rfl := List.length_eq_zero_iff.1 h
    rw [arcs_nil]
    exact iter_All0
  · exact iter_All ⟨h1, h2, by omega⟩
theorem sp_All {B : Base} {q : Nat} : True → Fn PP B N.view_View_All [.pointer (some ⟨q, 0, none⟩)] [] (fun v M => ∃ vb, v = .func (.func N.view_View_All_1) #[] #[.pointer (some ⟨vb, 0, none⟩)] ∧ M = [pts vb 0 [.pointer (some ⟨q, 0, none⟩)]]) := by
  intro _
  refine Fn_of N.view_View_All_f rfl rfl fun fr => ?_
  try dsimp only [List.append_eq, List.cons_append, List.nil_append]
  repeat' (first | refine T_seq ?_ | refine T_regionR Tt (by kernel_rfl) ?_ | refine W_go Tt rfl ?_ | refine W_nil ?_ | refine T_ret ?_ | with_reducible refine R_then ?_ | with_reducible refine R_norm ?_ | (refine A_box Tt ?_; intro b) | fail)
  (change bodyQ PP _ [fr] _ _ _ _ _; refine ⟨rfl, _, _, _, (.tmp .nil), ⟨_, rfl, rfl⟩, takeS⟩)
end Go.Rz

