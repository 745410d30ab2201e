/- take: Offered. -/
import Derived.Test.YtjkpfnmkhjlllaaGreatDoorRzHold5
import Derived.Test.YtjkpfnmkhjlllaaGreatDoorRzGive1
import Derived.Test.YtjkpfnmkhjlllaaGreatDoorRzLaw15
set_option linter.unusedVariables false
set_option linter.unusedSimpArgs false
open Go Go.Rz
set_option maxRecDepth 4000
set_option maxHeartbeats 40000000
namespace Go.Rz
/-- Two arcs that have something in common. -/
def Touch (f t f2 t2 : Int) : Prop := Meets (f, t) f2 ∨ Meets (f2, t2) f
theorem sp_Offered_1 {B : Base} {o : Ow} {p : Nat} {x : Lt} : True → Fn PP B N.take_Offered_1 [ownV o, .pointer (some ⟨p, 0, none⟩)] [pts p 0 (ltC x)]
    (fun v L => ∃ q : Bool, v = .bool q ∧ (q = true ↔ Touch o.f o.t x.f x.t) ∧ L = [pts p 0 (ltC x)]) := by
  intro _
  refine Fn_of N.take_Offered_1_f rfl rfl fun fr => ?_
  try dsimp only [List.append_eq, List.cons_append, List.nil_append]
  repeat' (first | refine T_seq ?_ | refine T_regionR Tt (by kernel_rfl) ?_ | refine W_go Tt rfl ?_ | refine W_nil ?_ | refine T_ret ?_ | with_reducible refine R_then ?_ | with_reducible refine R_norm ?_ | refine A_ldPts Tt ?_ | refine A_ldSl Tt ?_ | refine A_el Tt ?_ | refine A_el1 Tt ?_ | refine A_el2 Tt ?_ | (refine A_box Tt ?_; intro b) | (refine A_call Tt N.arc_Apart_is (sp_arc_Apart) (trivial) ?_; rintro v L ⟨q, rfl, hb, rfl⟩; cases q <;> dsimp only [List.cons_append, List.nil_append, cond_true, cond_false]) | fail)
  all_goals
    (change bodyQ PP _ [fr] _ _ _ _ _; refine ⟨rfl, _, _, _, (.tmp .nil), ⟨_, rfl, by unfold Touch; by_cases m1 : Meets (o.f, o.t) x.f <;> by_cases m2 : Meets (x.f, x.t) o.f <;> simp [m1, m2] at hb ⊢, rfl⟩, takeS⟩)
def mayTake (h : Hd) (x : Lt) (may : Bool) (sn : Int) : Prop := may = true ∧ 0 ≤ x.ep ∧ (∀ o ∈ arcsH h.node h.ow, ¬ Touch o.f o.t x.f x.t) ∧ 0 ≤ x.n ∧ x.n ≤ h.most - sn - h.kept
theorem sp_Offered {B : Base} {p : Nat} {h : Hd} {x : Lt} {may : Bool} {sm sn : Int} {top : Option Addr} : (x.kind = 10 ∧ wf h.oa h.ow.length h.oc ∧ h.ow.length ≤ 1000 ∧ (∀ o ∈ h.ow, 0 ≤ o.f ∧ 0 ≤ o.t ∧ 0 ≤ o.ep) ∧ 0 ≤ h.kept ∧ 0 ≤ sn ∧ sn ≤ 100000 ∧ h.kept ≤ 100000 ∧ 0 ≤ h.most ∧ h.most ≤ 200) →
    Fn PP B N.take_Offered [.pointer (some ⟨p, 0, none⟩), ltV x, .bool may] [pts p 0 (hdC h), sl h.oa h.ow.length h.oc 4 (flat ownC h.ow), pts h.sp 0 [.int .i64 sm, .int .i64 sn, .pointer top]]
    (fun v L => ((mayTake h x may sn ∧ ∃ tk lb : Nat, v = .tuple #[.pointer (some ⟨tk, 0, none⟩), .slice (some ⟨lb, 0, none⟩) 1 1] ∧
        L = [pts p 0 (hdC { h with kept := h.kept + x.n }), sl h.oa h.ow.length h.oc 4 (flat ownC h.ow), pts h.sp 0 [.int .i64 sm, .int .i64 sn, .pointer top],
          pts tk 0 (tkC ⟨.pointer (some ⟨p, 0, none⟩), x.f, x.t, x.ep, x.n, x.to, x.src, x.id, 1, 0, .slice none 0 0⟩), sl (some ⟨lb, 0, none⟩) 1 1 21 (flat ltC [{ kind := 11, src := x.to, to := x.src, id := x.id, n := 1 }])]) ∨
      (¬ mayTake h x may sn ∧ ∃ lb : Nat, v = .tuple #[.pointer none, .slice (some ⟨lb, 0, none⟩) 1 1] ∧
        L = [pts p 0 (hdC h), sl h.oa h.ow.length h.oc 4 (flat ownC h.ow), pts h.sp 0 [.int .i64 sm, .int .i64 sn, .pointer top], sl (some ⟨lb, 0, none⟩) 1 1 21 (flat ltC [{ kind := 11, src := x.to, to := x.src, id := x.id, n := 0 }])]))) := by
  obtain ⟨node, most, kept, oa, oc, ow, sp, sh, gf, gt, gp⟩ := h
  rintro ⟨hk, hwf, hlen, hok, h1, h2, h3, h4, h5, h6⟩
  dsimp only at hk hwf hlen hok h1 h2 h3 h4 h5 h6 ⊢
  have harc := sp_hold_Arcs (B := B) (p := p) (h := ⟨node, most, kept, oa, oc, ow, sp, sh, gf, gt, gp⟩) ⟨hwf, hlen, hok⟩
  have hkeep := fun n => sp_hold_Hold_Keep (B := B) (b := p) (h := ⟨node, most, kept, oa, oc, ow, sp, sh, gf, gt, gp⟩) (x := n) (sm := sm) (sn := sn) (top := top) ⟨h1, h2, h3, h4, h5, h6⟩
  have hal : (arcsH node ow).length < 1099511627776 := by
    have e1 := arcs_le (arcsV ow)
    have e2 := arcsV_le ow ow.length
    rw [List.take_length] at e2
    unfold arcsH; rw [List.length_map]; omega
  unfold mayTake
  dsimp only
  obtain ⟨o, ho⟩ : ∃ o, o = arcsH node ow := ⟨_, rfl⟩
  dsimp only at harc
  rw [← ho] at harc hal ⊢
  cases may
  all_goals
    refine Fn_of N.take_Offered_f rfl rfl fun fr => ?_
    try dsimp only [List.append_eq, List.cons_append, List.nil_append]
    repeat' (first | refine T_seq ?_ | refine T_regionR Tt (by kernel_rfl) ?_ | refine W_go Tt rfl ?_ | refine W_nil ?_ | refine T_cond_true rfl ?_ | refine T_cond_false rfl ?_ | refine T_skip ?_ | refine T_ret ?_ | with_reducible refine R_then ?_ | with_reducible refine R_norm ?_ | refine A_cmpY Tt ?_ | refine A_cmpN Tt ?_ | (refine A_cmp Tt ?_ ?_ <;> intro hc) | refine A_skip Tt ?_ | refine A_ldPts Tt ?_ | refine A_ldSl Tt ?_ | refine A_arr Tt ?_ | refine A_el Tt ?_ | refine A_el1 Tt ?_ | refine A_el2 Tt ?_ | (refine A_box Tt ?_; intro b) | fail)
    rename_i xb
    obtain ⟨tk, htk⟩ : ∃ x, x = b := ⟨_, rfl⟩
    subst htk
    repeat' (first | refine T_seq ?_ | refine T_regionR Tt (by kernel_rfl) ?_ | refine W_go Tt rfl ?_ | refine W_nil ?_ | refine T_cond_true rfl ?_ | refine T_cond_false rfl ?_ | refine T_skip ?_ | refine T_ret ?_ | with_reducible refine R_then ?_ | with_reducible refine R_norm ?_ | refine A_cmpY Tt ?_ | refine A_cmpN Tt ?_ | (refine A_cmp Tt ?_ ?_ <;> intro hc) | refine A_skip Tt ?_ | refine A_ldPts Tt ?_ | refine A_ldSl Tt ?_ | refine A_arr Tt ?_ | refine A_el Tt ?_ | refine A_el1 Tt ?_ | refine A_el2 Tt ?_ | (refine A_box Tt ?_; intro b) | (refine A_call Tt N.hold_Hold_Arcs_is (fun _ => harc) (trivial) ?_; rintro v L ⟨ra, rc, hrw, rfl, rfl⟩ <;> dsimp only [List.cons_append, List.nil_append]) | (refine A_call Tt N.slices_ContainsFunc_Owned_is (sp_slices_ContainsFunc_Owned (c := pts xb 0 (ltC x)) (p := fun o => tt (Touch o.f o.t x.f x.t))) (⟨hrw, hal, fun y _ => CallV_clo [.pointer (some ⟨xb, 0, none⟩)] N.take_Offered_1_is (sp_Offered_1 (o := y) (p := xb) (x := x) trivial) (fun v L hq => bool_tt hq)⟩) ?_; rintro v L ⟨q, rfl, hcl, rfl⟩; cases q <;> dsimp only [List.cons_append, List.nil_append, cond_true, cond_false]) | (refine A_call Tt N.hold_Hold_Keep_is (fun _ => hkeep x.n) (trivial) ?_; rintro v L ⟨q, rfl, hkp, rfl⟩; cases q <;> dsimp only [List.cons_append, List.nil_append, cond_true, cond_false]) | (refine A_call Tt N.take_Take_tell_is (sp_take_tell (g := ⟨.pointer (some ⟨p, 0, none⟩), x.f, x.t, x.ep, x.n, x.to, x.src, x.id, 1, 0, .slice none 0 0⟩)) (trivial) ?_; rintro v L ⟨lb, rfl, rfl⟩ <;> dsimp only [List.cons_append, List.nil_append]) | fail)
  · (change bodyQ PP _ [fr] _ _ _ _ _; refine ⟨rfl, _, _, _, (.tmp (.tmp .nil)), .inr ⟨(by rintro ⟨h, -⟩; cases h), lb, rfl, rfl⟩, takeS⟩)
  · (change bodyQ PP _ [fr] _ _ _ _ _; refine ⟨rfl, _, _, _, (.tmp (.tmp .nil)), .inr ⟨(by rintro ⟨h, -⟩; cases h), lb, rfl, rfl⟩, takeS⟩)
  · (change bodyQ PP _ [fr] _ _ _ _ _; refine ⟨rfl, _, _, _, (.tmp (.tmp .nil)), .inr ⟨by rintro ⟨-, h, -⟩; omega, lb, rfl, rfl⟩, takeS⟩)
  · (change bodyQ PP _ [fr] _ _ _ _ _; refine ⟨rfl, _, _, _, (.tmp (.tmp .nil)), .inr ⟨by rintro ⟨-, -, -, h, h'⟩; exact absurd (hkp.2 ⟨h, h'⟩) (by decide), lb, rfl, rfl⟩, takeS⟩)
  · (change bodyQ PP _ [fr] _ _ _ _ _; refine ⟨rfl, _, _, _, (.tmp (.tmp .nil)), .inl ⟨⟨rfl, by omega, fun y hy ht => absurd (hcl.2 ⟨y, hy, tt_iff.2 ht⟩) (by decide), (hkp.1 rfl).1, (hkp.1 rfl).2⟩, tk, lb, rfl, rfl⟩, takeS⟩)
  · (change bodyQ PP _ [fr] _ _ _ _ _; refine ⟨rfl, _, _, _, (.tmp (.tmp .nil)), .inr ⟨by rintro ⟨-, h, -⟩; omega, lb, rfl, rfl⟩, takeS⟩)
  · (change bodyQ PP _ [fr] _ _ _ _ _; refine ⟨rfl, _, _, _, (.tmp (.tmp .nil)), .inr ⟨by rintro ⟨-, -, h, -⟩; obtain ⟨y, hy, ht⟩ := hcl.1 rfl; exact h y hy (tt_iff.1 ht), lb, rfl, rfl⟩, takeS⟩)
end Go.Rz

/- cut.In of nothing, hold.Win without items, Got. -/
open Go Go.Rz
set_option maxRecDepth 4000
set_option maxHeartbeats 40000000
namespace Go.Rz
theorem sp_copied_nil {B : Base} : True → Fn PP B N.shelf_node_copied [.pointer none] [] (fun v L => v = .pointer none ∧ L = []) := by
  intro _
  refine Fn_of N.shelf_node_copied_f rfl rfl fun fr => ?_
  try dsimp only [List.append_eq, List.cons_append, List.nil_append]
  repeat' (first | refine T_seq ?_ | refine T_regionR Tt (by kernel_rfl) ?_ | refine T_drawR Tt N.shelf_node_copied_d mixed (by kernel_rfl) ?_ | refine W_go Tt rfl ?_ | refine W_nil ?_ | refine T_cond_true rfl ?_ | refine T_cond_false rfl ?_ | refine T_skip ?_ | refine T_ret ?_ | refine T_exit ?_ | refine T_block ?_ | with_reducible refine R_block ?_ | with_reducible refine R_then ?_ | with_reducible refine R_norm ?_ | with_reducible refine R_exitEq ?_ | refine R_exitNe ?_ | with_reducible refine R_thenX ?_ | with_reducible refine R_scopeX ?_ | with_reducible refine R_blockN ?_ | refine A_cmpT Tt ?_ | refine A_cmpF Tt ?_ | (refine A_cmp Tt ?_ ?_ <;> intro hc) | refine A_ldPts Tt ?_ | refine A_ldSl Tt ?_ | refine A_arr Tt ?_ | refine S_ix Tt ?_ | refine S_ixA Tt ?_ | refine A_el Tt ?_ | refine A_el1 Tt ?_ | refine A_el2 Tt ?_ | refine A_store Tt ?_ | refine A_stEl Tt ?_ | (refine A_box Tt ?_; intro b) | (refine A_mk Tt ?_; intro b) | (refine A_app Tt ?_; intro a cp hwf) | (refine A_appNil Tt ?_; intro a cp hwf) | fail)
  (change bodyQ PP _ [fr] _ _ _ _ _; refine ⟨rfl, _, _, _, (.tmp .nil), ⟨rfl, rfl⟩, takeS⟩)
theorem sp_Copy_nil {B : Base} {s : Nat} {most n : Int} : True → Fn PP B N.shelf_Shelf_Copy [.pointer (some ⟨s, 0, none⟩)] [pts s 0 [.int .i64 most, .int .i64 n, .pointer none]] (fun v L => ∃ c : Nat, v = .pointer (some ⟨c, 0, none⟩) ∧ L = [pts s 0 [.int .i64 most, .int .i64 n, .pointer none], pts c 0 [.int .i64 most, .int .i64 n, .pointer none]]) := by
  intro _
  refine Fn_of N.shelf_Shelf_Copy_f rfl rfl fun fr => ?_
  try dsimp only [List.append_eq, List.cons_append, List.nil_append]
  repeat' (first | refine T_seq ?_ | refine T_regionR Tt (by kernel_rfl) ?_ | refine T_drawR Tt N.shelf_Shelf_Copy_d mixed (by kernel_rfl) ?_ | refine W_go Tt rfl ?_ | refine W_nil ?_ | refine T_cond_true rfl ?_ | refine T_cond_false rfl ?_ | refine T_skip ?_ | refine T_ret ?_ | with_reducible refine R_then ?_ | with_reducible refine R_norm ?_ | refine A_cmpT Tt ?_ | refine A_cmpF Tt ?_ | (refine A_cmp Tt ?_ ?_ <;> intro hc) | refine A_ldPts Tt ?_ | refine A_ldSl Tt ?_ | refine A_arr Tt ?_ | refine A_el Tt ?_ | refine A_el1 Tt ?_ | refine A_el2 Tt ?_ | (refine A_box Tt ?_; intro b) | (refine A_call Tt N.shelf_node_copied_is (sp_copied_nil) (trivial) ?_; rintro v L ⟨rfl, rfl⟩ <;> dsimp only [List.cons_append, List.nil_append]) | fail)
  (change bodyQ PP _ [fr] _ _ _ _ _; refine ⟨rfl, _, _, _, (.tmp .nil), ⟨_, rfl, rfl⟩, takeS⟩)
theorem sp_In_nil {B : Base} {s : Nat} {most n : Int} : True → Fn PP B N.cut_In [.pointer (some ⟨s, 0, none⟩), .slice none 0 0] [pts s 0 [.int .i64 most, .int .i64 n, .pointer none]] (fun v L => v = .int .i64 0 ∧ L = [pts s 0 [.int .i64 most, .int .i64 n, .pointer none]]) := by
  intro _
  refine Fn_of N.cut_In_f rfl rfl fun fr => ?_
  try dsimp only [List.append_eq, List.cons_append, List.nil_append]
  repeat' (first | refine T_seq ?_ | refine T_regionR Tt (by kernel_rfl) ?_ | refine W_go Tt rfl ?_ | refine W_nil ?_ | refine T_cond_true rfl ?_ | refine T_cond_false rfl ?_ | refine T_skip ?_ | refine T_ret ?_ | refine T_exit ?_ | refine T_block ?_ | with_reducible refine R_block ?_ | with_reducible refine R_then ?_ | with_reducible refine R_norm ?_ | with_reducible refine R_exitEq ?_ | refine R_exitNe ?_ | with_reducible refine R_thenX ?_ | with_reducible refine R_scopeX ?_ | with_reducible refine R_blockN ?_ | refine A_cmpT Tt ?_ | refine A_cmpF Tt ?_ | (refine A_cmp Tt ?_ ?_ <;> intro hc) | refine A_ldPts Tt ?_ | refine A_ldSl Tt ?_ | refine S_ix Tt ?_ | refine S_ixA Tt ?_ | refine A_el Tt ?_ | refine A_el1 Tt ?_ | refine A_el2 Tt ?_ | refine A_store Tt ?_ | refine A_stEl Tt ?_ | (refine A_alloc Tt ?_; intro b) | (refine A_call Tt N.shelf_Shelf_Copy_is (sp_Copy_nil) (trivial) ?_; rintro v L ⟨c, rfl, rfl⟩ <;> dsimp only [List.cons_append, List.nil_append]) | fail)
  refine T_loopE (X := Unit) (fun _ => [(0, .pointer (some ⟨s, 0, none⟩)), (1, .slice none 0 0), (15, .slice none 0 0), (16, .int .i64 0), (17, .int .i64 0)]) (fun _ => [pts s 0 [.int .i64 most, .int .i64 n, .pointer none], fr]) (fun _ => 0) (fun _ => True) () trivial (by exact ⟨rfl, rfl, rfl, rfl, rfl, trivial⟩) takeS ?_
  rintro - d -
  repeat' (first | refine T_seq ?_ | refine T_regionR Tt (by kernel_rfl) ?_ | refine W_go Tt rfl ?_ | refine W_nil ?_ | refine T_cond_true rfl ?_ | refine T_cond_false rfl ?_ | refine T_skip ?_ | refine T_ret ?_ | refine T_exit ?_ | refine T_block ?_ | with_reducible refine R_block ?_ | with_reducible refine R_then ?_ | with_reducible refine R_norm ?_ | with_reducible refine R_exitEq ?_ | refine R_exitNe ?_ | with_reducible refine R_thenX ?_ | with_reducible refine R_scopeX ?_ | with_reducible refine R_blockN ?_ | refine A_cmpT Tt ?_ | refine A_cmpF Tt ?_ | (refine A_cmp Tt ?_ ?_ <;> intro hc) | refine A_ldPts Tt ?_ | refine A_ldSl Tt ?_ | refine S_ix Tt ?_ | refine S_ixA Tt ?_ | refine A_el Tt ?_ | refine A_el1 Tt ?_ | refine A_el2 Tt ?_ | refine A_store Tt ?_ | refine A_stEl Tt ?_ | (refine A_alloc Tt ?_; intro b) | fail)
  refine T_loopE (X := Unit) (fun _ => [(31, .slice none 0 0), (32, .int .i64 0), (33, .int .i64 0)]) (fun _ => [pts s 0 [.int .i64 most, .int .i64 n, .pointer none], fr]) (fun _ => 0) (fun _ => True) () trivial (by exact ⟨rfl, rfl, rfl, trivial⟩) takeS ?_
  rintro - d -
  repeat' (first | refine T_seq ?_ | refine T_regionR Tt (by kernel_rfl) ?_ | refine W_go Tt rfl ?_ | refine W_nil ?_ | refine T_cond_true rfl ?_ | refine T_cond_false rfl ?_ | refine T_skip ?_ | refine T_ret ?_ | refine T_exit ?_ | refine T_block ?_ | with_reducible refine R_block ?_ | with_reducible refine R_then ?_ | with_reducible refine R_norm ?_ | with_reducible refine R_exitEq ?_ | refine R_exitNe ?_ | with_reducible refine R_thenX ?_ | with_reducible refine R_scopeX ?_ | with_reducible refine R_blockN ?_ | refine A_cmpT Tt ?_ | refine A_cmpF Tt ?_ | (refine A_cmp Tt ?_ ?_ <;> intro hc) | refine A_ldPts Tt ?_ | refine A_ldSl Tt ?_ | refine S_ix Tt ?_ | refine S_ixA Tt ?_ | refine A_el Tt ?_ | refine A_el1 Tt ?_ | refine A_el2 Tt ?_ | refine A_store Tt ?_ | refine A_stEl Tt ?_ | (refine A_alloc Tt ?_; intro b) | fail)
  (change bodyQ PP _ [fr] _ _ _ _ _; refine ⟨rfl, _, _, _, (.tmp .nil), ⟨rfl, rfl⟩, takeS⟩)
theorem sp_IndexFunc_Item0 {B : Base} {fv : Value} : True → Fn PP B N.slices_IndexFunc_Item [.slice none 0 0, fv] [] (fun v L => v = .int .i64 (-1) ∧ L = []) := by
  intro _
  refine Fn_of N.slices_IndexFunc_Item_f rfl rfl fun fr => ?_
  try dsimp only [List.append_eq, List.cons_append, List.nil_append]
  repeat' (first | refine T_seq ?_ | refine T_regionR Tt (by kernel_rfl) ?_ | refine W_go Tt rfl ?_ | refine W_nil ?_ | refine T_cond_true rfl ?_ | refine T_cond_false rfl ?_ | refine T_skip ?_ | refine T_ret ?_ | refine T_exit ?_ | refine T_block ?_ | with_reducible refine R_block ?_ | with_reducible refine R_then ?_ | with_reducible refine R_norm ?_ | with_reducible refine R_exitEq ?_ | refine R_exitNe ?_ | with_reducible refine R_thenX ?_ | with_reducible refine R_scopeX ?_ | with_reducible refine R_blockN ?_ | refine A_cmpT Tt ?_ | refine A_cmpF Tt ?_ | (refine A_cmp Tt ?_ ?_ <;> intro hc) | refine A_ldPts Tt ?_ | refine A_ldSl Tt ?_ | refine S_ix Tt ?_ | refine S_ixA Tt ?_ | refine A_el Tt ?_ | refine A_el1 Tt ?_ | refine A_el2 Tt ?_ | fail)
  refine T_loopE (X := Unit) (fun i => [(0, .slice none 0 0), (1, fv), (7, .int .i64 0), (8, .int .i64 0)]) (fun i => [fr]) (fun i => 0) (fun i => True) () trivial (by exact ⟨rfl, rfl, rfl, rfl, trivial⟩) takeS ?_
  rintro i d -
  repeat' (first | refine T_seq ?_ | refine T_regionR Tt (by kernel_rfl) ?_ | refine W_go Tt rfl ?_ | refine W_nil ?_ | refine T_cond_true rfl ?_ | refine T_cond_false rfl ?_ | refine T_skip ?_ | refine T_ret ?_ | refine T_exit ?_ | refine T_block ?_ | with_reducible refine R_block ?_ | with_reducible refine R_then ?_ | with_reducible refine R_norm ?_ | with_reducible refine R_exitEq ?_ | refine R_exitNe ?_ | with_reducible refine R_thenX ?_ | with_reducible refine R_scopeX ?_ | with_reducible refine R_blockN ?_ | refine A_cmpT Tt ?_ | refine A_cmpF Tt ?_ | (refine A_cmp Tt ?_ ?_ <;> intro hc) | refine A_ldPts Tt ?_ | refine A_ldSl Tt ?_ | refine S_ix Tt ?_ | refine S_ixA Tt ?_ | refine A_el Tt ?_ | refine A_el1 Tt ?_ | refine A_el2 Tt ?_ | fail)
  (change bodyQ PP _ [fr] _ _ _ _ _; refine ⟨rfl, _, _, _, (.tmp .nil), ⟨rfl, rfl⟩, takeS⟩)
theorem sp_ContainsFunc_Item0 {B : Base} {fv : Value} : True → Fn PP B N.slices_ContainsFunc_Item [.slice none 0 0, fv] [] (fun v L => v = .bool false ∧ L = []) := by
  intro _
  refine Fn_of N.slices_ContainsFunc_Item_f rfl rfl fun fr => ?_
  try dsimp only [List.append_eq, List.cons_append, List.nil_append]
  repeat' (first | refine T_seq ?_ | refine T_regionR Tt (by kernel_rfl) ?_ | refine W_go Tt rfl ?_ | refine W_nil ?_ | refine T_ret ?_ | with_reducible refine R_then ?_ | with_reducible refine R_norm ?_ | refine A_cmpT Tt ?_ | refine A_cmpF Tt ?_ | (refine A_cmp Tt ?_ ?_ <;> intro hc) | (refine A_call Tt N.slices_IndexFunc_Item_is (sp_IndexFunc_Item0) (trivial) ?_; rintro v L ⟨rfl, rfl⟩ <;> dsimp only [List.cons_append, List.nil_append]) | fail)
  (change bodyQ PP _ [fr] _ _ _ _ _; refine ⟨rfl, _, _, _, (.tmp .nil), ⟨rfl, rfl⟩, takeS⟩)
theorem sp_Release0 {B : Base} {b : Nat} {h : Hd} : (0 ≤ h.kept ∧ h.kept < 1152921504606846976) → Fn PP B N.hold_Hold_Release [.pointer (some ⟨b, 0, none⟩), .int .i64 0] [pts b 0 (hdC h)] (fun v L => v = .tuple #[] ∧ L = [pts b 0 (hdC h)]) := fun hh =>
  (sp_hold_Hold_Release (n := 0) ⟨hh.1, hh.2, by decide⟩).mono fun v L ⟨h1, h2⟩ => ⟨h1, by rw [h2, if_neg (by decide)]⟩
/-- Nothing is won, but the arc. -/
noncomputable def ownW (h : Hd) (f t ep : Int) (oa : Option Addr) (oc : Nat) : Hd := { h with oa := oa, oc := oc, ow := h.ow ++ (pieces f t).map (mkOw h.node ep) }
theorem sp_Win0 {B : Base} {p : Nat} {h : Hd} {f t ep most n : Int} : (wf h.oa h.ow.length h.oc ∧ h.ow.length < 1000000 ∧ 0 ≤ ep ∧ (∀ o ∈ h.ow, ¬ (Meets (o.f, o.t) f ∨ Meets (f, t) o.f)) ∧ 0 ≤ h.kept ∧ h.kept < 1152921504606846976) →
    Fn PP B N.hold_Hold_Win [.pointer (some ⟨p, 0, none⟩), .agg #[.int .u64 f, .int .u64 t], .int .i64 ep, .slice none 0 0] [pts p 0 (hdC h), sl h.oa h.ow.length h.oc 4 (flat ownC h.ow), pts h.sp 0 [.int .i64 most, .int .i64 n, .pointer none]]
    (fun v L => ∃ oa oc, wf oa (ownW h f t ep oa oc).ow.length oc ∧ v = .int .i64 0 ∧ L = [pts p 0 (hdC (ownW h f t ep oa oc)), sl oa (ownW h f t ep oa oc).ow.length oc 4 (flat ownC (ownW h f t ep oa oc).ow), pts h.sp 0 [.int .i64 most, .int .i64 n, .pointer none]]) := by
  rintro ⟨h1, h2, h3, h4, h5, h6⟩
  have hown := sp_hold_Hold_Own (B := B) (p := p) (h := h) (f := f) (t := t) (ep := ep) ⟨h1, h2⟩
  have hmay := sp_hold_Hold_may (B := B) (b := p) (h := h) (f := f) (t := t) (ep := ep) ⟨h1, by omega⟩
  have hmay' := hmay.mono (Ps' := fun v L => v = .bool true ∧ L = [pts p 0 (hdC h), sl h.oa h.ow.length h.oc 4 (flat ownC h.ow)]) fun v L ⟨q, e, hq, hL⟩ => by
    have : q = true := hq.2 ⟨h3, h4⟩
    subst this
    exact ⟨e, hL⟩
  have hown' := hown.mono (Ps' := fun v L => ∃ oa oc, wf oa (ownW h f t ep oa oc).ow.length oc ∧ v = .bool true ∧ L = [pts p 0 (hdC (ownW h f t ep oa oc)), sl oa (ownW h f t ep oa oc).ow.length oc 4 (flat ownC (ownW h f t ep oa oc).ow)]) fun v L ⟨q, e, hq, oa, oc, hw, hL⟩ => by
    have : q = true := hq.2 ⟨h3, h4⟩
    subst this
    exact ⟨oa, oc, hw, e, hL⟩
  have hrel := fun oa oc => sp_Release0 (B := B) (b := p) (h := ownW h f t ep oa oc) ⟨h5, h6⟩
  refine Fn_of N.hold_Hold_Win_f rfl rfl fun fr => ?_
  try dsimp only [List.append_eq, List.cons_append, List.nil_append]
  repeat' (first | refine T_seq ?_ | refine T_regionR Tt (by kernel_rfl) ?_ | refine W_go Tt rfl ?_ | refine W_nil ?_ | refine T_cond_true rfl ?_ | refine T_cond_false rfl ?_ | refine T_skip ?_ | refine T_ret ?_ | with_reducible refine R_then ?_ | with_reducible refine R_norm ?_ | refine A_cmpY Tt ?_ | refine A_cmpN Tt ?_ | (refine A_cmp Tt ?_ ?_ <;> intro hc) | refine A_skip Tt ?_ | refine A_ldPts Tt ?_ | refine A_ldSl Tt ?_ | refine A_el Tt ?_ | refine A_el1 Tt ?_ | refine A_el2 Tt ?_ | (refine A_box Tt ?_; intro b) | (refine A_call Tt N.hold_Hold_may_is (fun _ => hmay') (trivial) ?_; rintro v L ⟨rfl, rfl⟩ <;> dsimp only [List.cons_append, List.nil_append]) | (refine A_call Tt N.slices_ContainsFunc_Item_is (sp_ContainsFunc_Item0) (trivial) ?_; rintro v L ⟨rfl, rfl⟩ <;> dsimp only [List.cons_append, List.nil_append]) | (refine A_call Tt N.cut_In_is (sp_In_nil (s := h.sp) (most := most) (n := n)) (trivial) ?_; rintro v L ⟨rfl, rfl⟩ <;> dsimp only [List.cons_append, List.nil_append]) | (refine A_call Tt N.hold_Hold_Own_is (fun _ => hown') (trivial) ?_; rintro v L ⟨oa, oc, hw, rfl, rfl⟩ <;> dsimp only [List.cons_append, List.nil_append]) | (refine A_call Tt N.hold_Hold_Release_is (fun _ => hrel _ _) (trivial) ?_; rintro v L ⟨rfl, rfl⟩ <;> dsimp only [List.cons_append, List.nil_append]) | fail)
  (change bodyQ PP _ [fr] _ _ _ _ _; refine ⟨rfl, _, _, _, (.tmp .nil), ⟨oa, oc, hw, rfl, rfl⟩, takeS⟩)
end Go.Rz

/- Got: a commit of nothing, a drop. -/
open Go Go.Rz
set_option maxRecDepth 4000
set_option maxHeartbeats 40000000
namespace Go.Rz
theorem sp_Got_commit0 {B : Base} {p tk : Nat} {h : Hd} {f t ep me src id most n : Int} {x : Lt} : (x.kind = 14 ∧ x.src = src ∧ x.id = id ∧ wf h.oa h.ow.length h.oc ∧ h.ow.length < 1000000 ∧ 0 ≤ ep ∧ (∀ o ∈ h.ow, ¬ (Meets (o.f, o.t) f ∨ Meets (f, t) o.f)) ∧ 0 ≤ h.kept ∧ h.kept < 1152921504606846976) →
    Fn PP B N.take_Take_Got [.pointer (some ⟨tk, 0, none⟩), ltV x] [pts p 0 (hdC h), sl h.oa h.ow.length h.oc 4 (flat ownC h.ow), pts h.sp 0 [.int .i64 most, .int .i64 n, .pointer none], pts tk 0 (tkC ⟨.pointer (some ⟨p, 0, none⟩), f, t, ep, 0, me, src, id, 1, 0, .slice none 0 0⟩)]
    (fun v L => ∃ oa oc, ∃ lb : Nat, wf oa (ownW h f t ep oa oc).ow.length oc ∧ v = .tuple #[.slice (some ⟨lb, 0, none⟩) 1 1, .bool true] ∧ L = [pts p 0 (hdC (ownW h f t ep oa oc)), sl oa (ownW h f t ep oa oc).ow.length oc 4 (flat ownC (ownW h f t ep oa oc).ow), pts h.sp 0 [.int .i64 most, .int .i64 n, .pointer none],
      pts tk 0 (tkC ⟨.pointer (some ⟨p, 0, none⟩), f, t, ep, 0, me, src, id, 2, 0, .slice none 0 0⟩), sl (some ⟨lb, 0, none⟩) 1 1 21 (flat ltC [{ kind := 15, src := me, to := src, id := id, n := 0 }])]) := by
  rintro ⟨hk, hs, hi, hw⟩
  refine Fn_of N.take_Take_Got_f rfl rfl fun fr => ?_
  try dsimp only [List.append_eq, List.cons_append, List.nil_append]
  repeat' (first | refine T_seq ?_ | refine T_regionR Tt (by kernel_rfl) ?_ | refine T_drawR Tt N.take_Take_Got_d mixed (by kernel_rfl) ?_ | refine W_go Tt rfl ?_ | refine W_nil ?_ | refine T_cond_true rfl ?_ | refine T_cond_false rfl ?_ | refine T_skip ?_ | refine T_ret ?_ | refine T_block ?_ | with_reducible refine R_block ?_ | with_reducible refine R_then ?_ | with_reducible refine R_norm ?_ | with_reducible refine R_blockN ?_ | refine A_cmpY Tt ?_ | refine A_cmpN Tt ?_ | (refine A_cmp Tt ?_ ?_ <;> intro hc) | refine A_skip Tt ?_ | refine A_ldPts Tt ?_ | refine A_ldSl Tt ?_ | refine A_el Tt ?_ | refine A_el1 Tt ?_ | refine A_el2 Tt ?_ | refine A_store Tt ?_ | (refine A_box Tt ?_; intro b) | (refine A_app Tt ?_; intro a cp hwf) | (refine A_appNil Tt ?_; intro a cp hwf) | (refine A_call Tt N.hold_Hold_Win_is (sp_Win0 (h := h) (most := most) (n := n)) (hw) ?_; rintro v L ⟨oa, oc, how, rfl, rfl⟩ <;> dsimp only [List.cons_append, List.nil_append]) | (refine A_call Tt N.take_Take_tell_is (sp_take_tell (g := ⟨.pointer (some ⟨p, 0, none⟩), f, t, ep, 0, me, src, id, 2, 0, .slice none 0 0⟩)) (trivial) ?_; rintro v L ⟨lb, rfl, rfl⟩ <;> dsimp only [List.cons_append, List.nil_append]) | fail)
  · (change bodyQ PP _ [fr] _ _ _ _ _; refine ⟨rfl, _, _, _, (.tmp (.tmp .nil)), ⟨oa, oc, lb, how, rfl, rfl⟩, takeS⟩)
  all_goals exact absurd rfl hc
theorem sp_Got_drop {B : Base} {p tk : Nat} {h : Hd} {f t ep me src id m ch : Int} {l : Value} {x : Lt} : (x.kind = 16 ∧ x.src = src ∧ x.id = id ∧ 0 ≤ h.kept ∧ h.kept < 1152921504606846976 ∧ m < 9223372036854775808) →
    Fn PP B N.take_Take_Got [.pointer (some ⟨tk, 0, none⟩), ltV x] [pts p 0 (hdC h), pts tk 0 (tkC ⟨.pointer (some ⟨p, 0, none⟩), f, t, ep, m, me, src, id, 1, ch, l⟩)]
    (fun v L => v = .tuple #[.slice none 0 0, .bool true] ∧ L = [pts p 0 (hdC { h with kept := if 0 < m then max (h.kept - m) 0 else h.kept }), pts tk 0 (tkC ⟨.pointer (some ⟨p, 0, none⟩), f, t, ep, m, me, src, id, 3, ch, l⟩)]) := by
  rintro ⟨hk, hs, hi, hw⟩
  refine Fn_of N.take_Take_Got_f rfl rfl fun fr => ?_
  try dsimp only [List.append_eq, List.cons_append, List.nil_append]
  repeat' (first | refine T_seq ?_ | refine T_regionR Tt (by kernel_rfl) ?_ | refine T_drawR Tt N.take_Take_Got_d mixed (by kernel_rfl) ?_ | refine W_go Tt rfl ?_ | refine W_nil ?_ | refine T_cond_true rfl ?_ | refine T_cond_false rfl ?_ | refine T_skip ?_ | refine T_ret ?_ | refine T_block ?_ | with_reducible refine R_block ?_ | with_reducible refine R_then ?_ | with_reducible refine R_norm ?_ | with_reducible refine R_blockN ?_ | refine A_cmpY Tt ?_ | refine A_cmpN Tt ?_ | (refine A_cmp Tt ?_ ?_ <;> intro hc) | refine A_skip Tt ?_ | refine A_ldPts Tt ?_ | refine A_ldSl Tt ?_ | refine A_el Tt ?_ | refine A_el1 Tt ?_ | refine A_el2 Tt ?_ | refine A_store Tt ?_ | (refine A_box Tt ?_; intro b) | (refine A_app Tt ?_; intro a cp hwf) | (refine A_appNil Tt ?_; intro a cp hwf) | (refine A_call Tt N.hold_Hold_Release_is (sp_hold_Hold_Release (h := h) (n := m)) (hw) ?_; rintro v L ⟨rfl, rfl⟩ <;> dsimp only [List.cons_append, List.nil_append]) | fail)
  · (change bodyQ PP _ [fr] _ _ _ _ _; refine ⟨rfl, _, _, _, (.tmp (.tmp .nil)), ⟨rfl, rfl⟩, takeS⟩)
  all_goals exact absurd rfl hc
end Go.Rz

