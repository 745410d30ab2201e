/- GiveOnce. -/
import Derived.Test.YtjkpfnmkhjlllaaGreatDoorRzGive2
set_option linter.unusedVariables false
set_option linter.unusedSimpArgs false
open Go Go.Rz
set_option maxRecDepth 4000
namespace Go.Rz
/-! ### Arcs and pieces -/
theorem meets_pieces {f t y : Int} (hf : U f) (ht : U t) (hy : U y) : inPs (pieces f t) y ↔ Meets (f, t) y := by
  unfold U at *
  unfold inPs pieces Meets
  split
  · simp [inP]; omega
  · simp [inP]; omega
theorem within_iff {f t f2 t2 : Int} (hf : U f) (ht : U t) (hf2 : U f2) (ht2 : U t2) :
    (f = t ∨ (f2 ≠ t2 ∧ (f2 - f) % 18446744073709551616 < (t - f) % 18446744073709551616 ∧ (t2 - f2) % 18446744073709551616 ≤ ((t - f) % 18446744073709551616 - (f2 - f) % 18446744073709551616) % 18446744073709551616)) ↔ ∀ y, U y → inPs (pieces f2 t2) y → inPs (pieces f t) y := by
  constructor
  · intro h y hy
    rw [meets_pieces hf2 ht2 hy, meets_pieces hf ht hy]
    unfold Meets U at *
    dsimp only
    omega
  · intro h
    by_cases hw : f = t
    · exact .inl hw
    · right
      have h1 := h t ht
      have h2 := h f2 hf2
      rw [meets_pieces hf2 ht2 ht, meets_pieces hf ht ht] at h1
      rw [meets_pieces hf2 ht2 hf2, meets_pieces hf ht hf2] at h2
      unfold Meets U at *
      dsimp only at h1 h2
      omega
theorem Hok_pieces {f t node ep : Int} (hf : U f) (ht : U t) (he : 0 ≤ ep) : Hok ((pieces f t).map (mkOw node ep)) := by
  constructor
  · intro o ho
    obtain ⟨p, hp, rfl⟩ := List.mem_map.1 ho
    have := pieces_ok hf ht hp
    exact ⟨this.1, this.2.1, this.2.2, he⟩
  · unfold pieces
    split
    · simp
    · rename_i h
      simp only [List.map_cons, List.map_nil, mkOw, List.pairwise_cons, List.mem_cons, List.not_mem_nil, or_false, forall_eq, List.Pairwise.nil, and_true, false_imp_iff, implies_true]
      intro x
      unfold inO U at *
      dsimp only
      omega
theorem own_pieces {f t node ep y : Int} : (pieceAt ((pieces f t).map (mkOw node ep)) y).isSome = true ↔ inPs (pieces f t) y := by
  rw [pieceAt_isSome]
  unfold inPs inO inP
  constructor
  · rintro ⟨o, ho, hx⟩
    obtain ⟨p, hp, rfl⟩ := List.mem_map.1 ho
    exact ⟨p, hp, hx⟩
  · rintro ⟨p, hp, hx⟩
    exact ⟨_, List.mem_map.2 ⟨p, hp, rfl⟩, hx⟩
theorem Cov_ep {ow : List Ow} {R : Int → Prop} {e E y : Int} (h : Cov ow R e) (hE : ∀ o ∈ ow, o.ep = E) (h0 : 0 ≤ E) (hy : U y) (hR : R y) : e = E := by
  obtain ⟨o, ho, hle⟩ := h.1 y hy hR
  have := hE o (pieceAt_some ho).1
  rcases h.2.2 with h2 | ⟨z, -, -, o', ho', h3⟩
  · have := h.2.1; omega
  · have := hE o' (pieceAt_some ho').1; omega
theorem inPs_from {f t : Int} (hf : U f) (ht : U t) : inPs (pieces f t) f := by
  rw [meets_pieces hf ht hf]
  unfold Meets U at *
  dsimp only
  omega

/-! ### A hold that is loaded with nothing -/
theorem sp_Own0 {B : Base} {p : Nat} {node most kept f t ep : Int} {sp : Nat} {sh : Bool} {gf gt : Int} {gp : Value} : (0 ≤ ep) → Fn PP B N.hold_Hold_Own [.pointer (some ⟨p, 0, none⟩), .agg #[.int .u64 f, .int .u64 t], .int .i64 ep] [pts p 0 (hdC ⟨node, most, kept, none, 0, [], sp, sh, gf, gt, gp⟩)]
    (fun v L => ∃ oa oc, wf oa ((pieces f t).map (mkOw node ep)).length oc ∧ v = .bool true ∧ L = [pts p 0 (hdC ⟨node, most, kept, oa, oc, (pieces f t).map (mkOw node ep), sp, sh, gf, gt, gp⟩), sl oa ((pieces f t).map (mkOw node ep)).length oc 4 (flat ownC ((pieces f t).map (mkOw node ep)))]) := by
  intro he
  have h := sp_hold_Hold_Own (B := B) (p := p) (h := ⟨node, most, kept, none, 0, [], sp, sh, gf, gt, gp⟩) (f := f) (t := t) (ep := ep) ⟨.inl ⟨rfl, rfl, rfl⟩, by simp⟩
  refine Fn.conseq h ((Ent.sl0 (esz := 4)).trans Ent.swap) ?_
  rintro v L ⟨q, rfl, hq, oa, oc, hw, rfl⟩
  have : q = true := hq.2 ⟨he, by simp⟩
  subst this
  exact ⟨_, ⟨oa, oc, hw, rfl, rfl⟩, Ent.refl _⟩
theorem sp_ref_Own0 {B : Base} {p : Nat} {node most kept f t ep : Int} {sp : Nat} {sh : Bool} {gf gt : Int} {gp : Value} : (0 ≤ ep) → Fn PP B N.rosref10_Hold_Own [.pointer (some ⟨p, 0, none⟩), .agg #[.int .u64 f, .int .u64 t], .int .i64 ep] [pts p 0 (hdC ⟨node, most, kept, none, 0, [], sp, sh, gf, gt, gp⟩)]
    (fun v L => ∃ oa oc, wf oa 1 oc ∧ v = .bool true ∧ L = [pts p 0 (hdC ⟨node, most, kept, oa, oc, [⟨f, t, node, ep⟩], sp, sh, gf, gt, gp⟩), sl oa 1 oc 4 (flat ownC [⟨f, t, node, ep⟩])]) := by
  intro he
  have h := sp_ref10_Own (B := B) (p := p) (h := ⟨node, most, kept, none, 0, [], sp, sh, gf, gt, gp⟩) (f := f) (t := t) (ep := ep) ⟨.inl ⟨rfl, rfl, rfl⟩, by simp⟩
  refine Fn.conseq h ((Ent.sl0 (esz := 4)).trans Ent.swap) ?_
  rintro v L ⟨q, rfl, hq, oa, oc, hw, rfl⟩
  have : q = true := hq.2 ⟨he, by simp⟩
  subst this
  exact ⟨_, ⟨oa, oc, hw, rfl, rfl⟩, Ent.refl _⟩
theorem sp_Loaded_nil {B : Base} {node f t ep : Int} : (0 ≤ ep) → Fn PP B N.roslaw15_Loaded [.int .i64 node, .agg #[.int .u64 f, .int .u64 t], .int .i64 ep, .slice none 0 0] []
    (fun v L => ∃ (q r sp oc : Nat) (oa : Option Addr), wf oa ((pieces f t).map (mkOw node ep)).length oc ∧ v = .tuple #[.pointer (some ⟨q, 0, none⟩), .pointer (some ⟨r, 0, none⟩)] ∧
      L = [pts q 0 (hdC ⟨node, 200, 0, oa, oc, (pieces f t).map (mkOw node ep), sp, false, 0, 0, .slice none 0 0⟩), sl oa ((pieces f t).map (mkOw node ep)).length oc 4 (flat ownC ((pieces f t).map (mkOw node ep))), pts sp 0 (shB 200 [] none)]) := by
  intro he
  refine Fn_of N.roslaw15_Loaded_f rfl rfl fun fr => ?_
  try dsimp only [List.append_eq, List.cons_append, List.nil_append]
  repeat' (first | refine T_seq ?_ | refine T_regionR Tt (by kernel_rfl) ?_ | refine T_drawR Tt N.roslaw15_Loaded_d mixed (by kernel_rfl) ?_ | refine W_go Tt rfl ?_ | refine W_nil ?_ | refine T_cond_true rfl ?_ | refine T_cond_false rfl ?_ | refine T_skip ?_ | refine T_ret ?_ | refine T_exit ?_ | refine T_block ?_ | with_reducible refine R_block ?_ | with_reducible refine R_then ?_ | with_reducible refine R_norm ?_ | with_reducible refine R_exitEq ?_ | refine R_exitNe ?_ | with_reducible refine R_thenX ?_ | with_reducible refine R_scopeX ?_ | with_reducible refine R_blockN ?_ | refine A_cmpT Tt ?_ | refine A_cmpF Tt ?_ | (refine A_cmp Tt ?_ ?_ <;> intro hc) | refine A_skip Tt ?_ | refine A_ldPts Tt ?_ | refine A_ldSl Tt ?_ | refine A_arr Tt ?_ | refine S_ix Tt ?_ | refine S_ixA Tt ?_ | refine A_el Tt ?_ | refine A_el1 Tt ?_ | refine A_el2 Tt ?_ | refine A_store Tt ?_ | refine A_stEl Tt ?_ | (refine A_box Tt ?_; intro b) | (refine A_alloc Tt ?_; intro b) | (refine A_call Tt N.hold_New_is (sp_New0 (most := 200)) (⟨by decide, by decide⟩) ?_; rintro v L ⟨q, sp, rfl, rfl⟩ <;> dsimp only [List.cons_append, List.nil_append]) | (refine A_call Tt N.rosref10_Holds_is (sp_Holds0 (most := 200)) (⟨by decide, by decide⟩) ?_; rintro v L ⟨r, rp, rfl, rfl⟩ <;> dsimp only [List.cons_append, List.nil_append]) | (refine A_call Tt N.hold_Hold_Own_is (sp_Own0) (he) ?_; rintro v L ⟨oa, oc, hw, rfl, rfl⟩ <;> dsimp only [List.cons_append, List.nil_append]) | (refine A_call Tt N.rosref10_Hold_Own_is (sp_ref_Own0) (he) ?_; rintro v L ⟨ra, rc, hw2, rfl, rfl⟩ <;> dsimp only [List.cons_append, List.nil_append]) | fail)
  refine T_loopE (X := Unit) (fun _ => [(3, .slice none 0 0), (10, .pointer (some ⟨q, 0, none⟩)), (11, .pointer (some ⟨r, 0, none⟩)), (12, .int .i64 0)]) (fun _ => [pts q 0 (hdC ⟨node, 200, 0, oa, oc, (pieces f t).map (mkOw node ep), sp, false, 0, 0, .slice none 0 0⟩), sl oa ((pieces f t).map (mkOw node ep)).length oc 4 (flat ownC ((pieces f t).map (mkOw node ep))), pts sp 0 (shB 200 [] none), fr])
    (fun _ => 0) (fun _ => True) () trivial (by exact ⟨rfl, rfl, rfl, rfl, trivial⟩) takeS ?_
  rintro - d -
  repeat' (first | refine T_seq ?_ | refine T_regionR Tt (by kernel_rfl) ?_ | refine T_drawR Tt N.roslaw15_Loaded_d mixed (by kernel_rfl) ?_ | refine W_go Tt rfl ?_ | refine W_nil ?_ | refine T_cond_true rfl ?_ | refine T_cond_false rfl ?_ | refine T_skip ?_ | refine T_ret ?_ | refine T_exit ?_ | refine T_block ?_ | with_reducible refine R_block ?_ | with_reducible refine R_then ?_ | with_reducible refine R_norm ?_ | with_reducible refine R_exitEq ?_ | refine R_exitNe ?_ | with_reducible refine R_thenX ?_ | with_reducible refine R_scopeX ?_ | with_reducible refine R_blockN ?_ | refine A_cmpT Tt ?_ | refine A_cmpF Tt ?_ | (refine A_cmp Tt ?_ ?_ <;> intro hc) | refine A_skip Tt ?_ | refine A_ldPts Tt ?_ | refine A_ldSl Tt ?_ | refine A_arr Tt ?_ | refine S_ix Tt ?_ | refine S_ixA Tt ?_ | refine A_el Tt ?_ | refine A_el1 Tt ?_ | refine A_el2 Tt ?_ | refine A_store Tt ?_ | refine A_stEl Tt ?_ | (refine A_box Tt ?_; intro b) | (refine A_alloc Tt ?_; intro b) | fail)
  (change bodyQ PP _ [fr] _ _ _ _ _; refine ⟨rfl, _, _, _, (.tmp (.tmp .nil)), ⟨q, r, sp, oc, oa, hw, rfl, rfl⟩, takeS⟩)
theorem sp_Has_no {B : Base} {q : Nat} {h : Hd} {x : Int} : (wf h.oa h.ow.length h.oc ∧ h.ow.length < 1099511627776 ∧ (pieceAt h.ow x).isSome = false) → Fn PP B N.hold_Hold_Has [.pointer (some ⟨q, 0, none⟩), .int .u64 x] [pts q 0 (hdC h), sl h.oa h.ow.length h.oc 4 (flat ownC h.ow)]
    (fun v L => v = .bool false ∧ L = [pts q 0 (hdC h), sl h.oa h.ow.length h.oc 4 (flat ownC h.ow)]) := fun ⟨h1, h2, h3⟩ =>
  (sp_hold_Hold_Has ⟨h1, h2⟩).mono fun v L ⟨b, e1, e2, e3⟩ => ⟨(by cases b with | false => exact e1 | true => rw [e2.1 rfl] at h3; cases h3), e3⟩
theorem sp_Has_yes {B : Base} {q : Nat} {h : Hd} {x : Int} : (wf h.oa h.ow.length h.oc ∧ h.ow.length < 1099511627776 ∧ (pieceAt h.ow x).isSome = true) → Fn PP B N.hold_Hold_Has [.pointer (some ⟨q, 0, none⟩), .int .u64 x] [pts q 0 (hdC h), sl h.oa h.ow.length h.oc 4 (flat ownC h.ow)]
    (fun v L => v = .bool true ∧ L = [pts q 0 (hdC h), sl h.oa h.ow.length h.oc 4 (flat ownC h.ow)]) := fun ⟨h1, h2, h3⟩ =>
  (sp_hold_Hold_Has ⟨h1, h2⟩).mono fun v L ⟨b, e1, e2, e3⟩ => ⟨by rw [e1, e2.2 h3], e3⟩
theorem loss_all : lossL ((pieces 0 0).map (mkOw 1 0)) 0 0 = [] := by
  simp [lossL, pieces, lossP, lessL, mkOw]
theorem arcL_nil (f t : Int) : arcL f t [] = [] := by
  unfold arcL pieceL
  simp
/-- Where all has one epoch: of nothing. -/
theorem sp_Start_one {B : Base} {q sp oc : Nat} {oa : Option Addr} {node most kept gf gt E f t me to id : Int} {ow : List Ow} {gp : Value} : (to ≠ me ∧ wf oa ow.length oc ∧ ow.length < 1099511627776 ∧ Hok ow ∧ U f ∧ U t ∧ 0 ≤ E ∧ E < 1000000 ∧ (∀ o ∈ ow, o.ep = E) ∧ ∀ y, U y → inPs (pieces f t) y → (pieceAt ow y).isSome = true) →
    Fn PP B N.give_Start [.pointer (some ⟨q, 0, none⟩), .agg #[.int .u64 f, .int .u64 t], .int .i64 me, .int .i64 to, .int .i64 id] [pts q 0 (hdC ⟨node, most, kept, oa, oc, ow, sp, false, gf, gt, gp⟩), sl oa ow.length oc 4 (flat ownC ow), pts sp 0 (shB 200 [] none)]
    (fun v L => ∃ (g lb : Nat), v = .tuple #[.pointer (some ⟨g, 0, none⟩), .slice (some ⟨lb, 0, none⟩) 1 1, .int .i64 0] ∧
      L = [pts q 0 (hdC ⟨node, most, kept, oa, oc, ow, sp, true, f, t, gp⟩), sl oa ow.length oc 4 (flat ownC ow), shP sp 200 [],
        pts g 0 (gvC ⟨.pointer (some ⟨q, 0, none⟩), f, t, E + 1, me, to, id, 1, .slice none 0 0, 0⟩), sl (some ⟨lb, 0, none⟩) 1 1 21 (flat ltC [{ kind := 10, src := me, to := to, id := id, f := f, t := t, ep := E + 1, n := 0 }])]) := by
  rintro ⟨h1, h2, h3, h4, h5, h6, h7, h8, h9, h10⟩
  refine Fn.conseq (sp_Start_nil (B := B) (q := q) (h := ⟨node, most, kept, oa, oc, ow, sp, false, gf, gt, gp⟩) (f := f) (t := t) (me := me) (to := to) (id := id) (m := 200) (l := []) ⟨h1, arcL_nil f t, rfl, by simp, h2, h3, h4, h5, h6, h10⟩) (Ent.cons _ (Ent.cons _ sh_none)) ?_
  rintro v L ⟨g, lb, e, rfl, hc, rfl⟩
  have := Cov_ep hc h9 h7 h5 (inPs_from h5 h6)
  subst this
  rw [wr_ok (n := e + 1) (by omega) (by omega)]
  exact ⟨_, ⟨g, lb, rfl, rfl⟩, Ent.refl _⟩
end Go.Rz

/- GiveOnce. -/
open Go Go.Rz
set_option maxRecDepth 4000
namespace Go.Rz
theorem ow0_ok : Hok ((pieces 0 0).map (mkOw 1 0)) := Hok_pieces (by unfold U; omega) (by unfold U; omega) (by omega)
theorem ow_ep {f t node ep : Int} : ∀ o ∈ (pieces f t).map (mkOw node ep), o.ep = ep := fun o ho => by
  obtain ⟨p, -, rfl⟩ := List.mem_map.1 ho; rfl
theorem ow_len {f t node ep : Int} : ((pieces f t).map (mkOw node ep)).length ≤ 2 := by simpa using pieces_le f t
theorem sp_alive15 {B : Base} : True → Fn PP B N.roslaw15_alive [] [] (fun v L => v = .bool true ∧ L = []) := by
  intro _
  have hU : U 0 := by unfold U; omega
  have hl := ow_len (f := 0) (t := 0) (node := 1) (ep := 0)
  have e0 : pieceAt (lossL ((pieces 0 0).map (mkOw 1 0)) 0 0) 7 = none := by rw [loss_all]; rfl
  refine Fn.pre ?_ (Ent.sl0 (esz := 4))
  refine Fn_of N.roslaw15_alive_f rfl rfl fun fr => ?_
  try dsimp only [List.append_eq, List.cons_append, List.nil_append]
  repeat' (first | refine T_seq ?_ | refine T_regionR Tt (by kernel_rfl) ?_ | refine W_go Tt rfl ?_ | refine W_nil ?_ | refine T_cond_true rfl ?_ | refine T_cond_false rfl ?_ | refine T_skip ?_ | refine T_ret ?_ | with_reducible refine R_then ?_ | with_reducible refine R_norm ?_ | refine A_cmpT Tt ?_ | refine A_cmpF Tt ?_ | refine A_cmpY Tt ?_ | refine A_cmpN Tt ?_ | (refine A_cmp Tt ?_ ?_ <;> intro hc) | refine A_skip Tt ?_ | refine A_ldPts Tt ?_ | refine A_ldSl Tt ?_ | refine A_arr Tt ?_ | refine S_ix Tt ?_ | refine S_ixA Tt ?_ | refine A_el Tt ?_ | refine A_el1 Tt ?_ | refine A_el2 Tt ?_ | (refine A_call Tt N.roslaw15_Loaded_is (sp_Loaded_nil) ((Int.le_refl 0)) ?_; rintro v L ⟨q, r, sp, oc, oa, hw, rfl, rfl⟩ <;> dsimp only [List.cons_append, List.nil_append]) | (refine A_call Tt N.give_Start_is (sp_Start_one (f := 0) (t := 0) (me := 1) (to := 2) (id := 5) (E := 0) (ow := (pieces 0 0).map (mkOw 1 0)) (node := 1) (most := 200) (kept := 0) (gf := 0) (gt := 0) (gp := .slice none 0 0)) (⟨by decide, hw, by omega, ow0_ok, hU, hU, by omega, by omega, ow_ep, fun y hy hi => own_pieces.2 hi⟩) ?_; rintro v L ⟨g, lb, rfl, rfl⟩ <;> dsimp only [List.cons_append, List.nil_append]) | (refine A_call Tt N.give_Give_Got_is (sp_Got_commit (x := { kind := 11, src := 2, to := 1, id := 5, n := 1 }) (gb := g) (n := 0) (cc := 0) (ca := none) (h := .pointer (some ⟨q, 0, none⟩)) (f := 0) (t := 0) (ep := 0 + 1) (me := 1) (to := 2) (id := 5) (went := 0)) (⟨by decide, rfl, rfl, rfl, rfl⟩) ?_; rintro v L ⟨lb2, rfl, rfl⟩ <;> dsimp only [List.cons_append, List.nil_append]) | (refine A_call Tt N.give_Give_Got_is (sp_Got_done (x := { kind := 15, src := 2, to := 1, id := 5 }) (gb := g) (q := q) (n := 0) (hd := ⟨1, 200, 0, oa, oc, (pieces 0 0).map (mkOw 1 0), sp, true, 0, 0, .slice none 0 0⟩) (m := 200) (l := []) (ga := none) (gc := 0) (us := []) (ch := .slice none 0 0) (f := 0) (t := 0) (ep := 0 + 1) (me := 1) (to := 2) (id := 5) (went := 0)) (⟨⟨rfl, rfl, by decide, hw, by dsimp only; omega, Srt.nil, by decide, hU, hU, fun h => absurd (arcL_nil 0 0) h⟩, rfl, rfl, rfl⟩) ?_; rintro v L ⟨oa2, oc2, ga', gc', hw1, hw2, rfl, rfl⟩ <;> dsimp only [List.cons_append, List.nil_append]) | (refine A_call Tt N.give_Give_Step_is (sp_give_Step (g := ⟨.pointer (some ⟨q, 0, none⟩), 0, 0, 0 + 1, 1, 2, 5, 4, .slice none 0 0, 0⟩)) (trivial) ?_; rintro v L ⟨rfl, rfl⟩ <;> dsimp only [List.cons_append, List.nil_append]) | (refine A_call Tt N.hold_Hold_Has_is (sp_Has_no (q := q) (h := ⟨1, 200, 0, oa2, oc2, lossL ((pieces 0 0).map (mkOw 1 0)) 0 0, sp, false, 0, 0, .slice ga' (0 + 1) gc'⟩) (x := 7)) (⟨hw1, by simp [loss_all], by dsimp only; rw [e0]; rfl⟩) ?_; rintro v L ⟨rfl, rfl⟩ <;> dsimp only [List.cons_append, List.nil_append]) | fail)
  (change bodyQ PP _ [fr] _ _ _ _ _; refine ⟨rfl, _, _, _, (.tmp .nil), ⟨rfl, rfl⟩, takeS⟩)
theorem sp_Within_yes {B : Base} {f t f2 t2 : Int} : (U f ∧ U t ∧ U f2 ∧ U t2 ∧ ∀ y, U y → inPs (pieces f2 t2) y → inPs (pieces f t) y) → Fn PP B N.arc_Within [.agg #[.int .u64 f, .int .u64 t], .agg #[.int .u64 f2, .int .u64 t2]] [] (fun v L => v = .bool true ∧ L = []) := fun ⟨h1, h2, h3, h4, h5⟩ =>
  (sp_arc_Within trivial).mono fun v L ⟨q, e1, e2, e3⟩ => ⟨by rw [e1, e2.2 ((within_iff h1 h2 h3 h4).2 h5)], e3⟩
theorem sp_Within_no {B : Base} {f t f2 t2 : Int} : (U f ∧ U t ∧ U f2 ∧ U t2 ∧ ¬ ∀ y, U y → inPs (pieces f2 t2) y → inPs (pieces f t) y) → Fn PP B N.arc_Within [.agg #[.int .u64 f, .int .u64 t], .agg #[.int .u64 f2, .int .u64 t2]] [] (fun v L => v = .bool false ∧ L = []) := fun ⟨h1, h2, h3, h4, h5⟩ =>
  (sp_arc_Within trivial).mono fun v L ⟨q, e1, e2, e3⟩ => ⟨(by cases q with | false => exact e1 | true => exact absurd ((within_iff h1 h2 h3 h4).1 (e2.1 rfl)) h5), e3⟩
theorem sp_GiveOnce {B : Base} {f t f2 t2 f3 t3 to : Int} : (U f ∧ U t ∧ U f2 ∧ U t2 ∧ U f3 ∧ U t3) → Fn PP B N.roslaw15_GiveOnce [.agg #[.int .u64 f, .int .u64 t], .agg #[.int .u64 f2, .int .u64 t2], .agg #[.int .u64 f3, .int .u64 t3], .int .i64 to] []
    (fun v L => v = .bool true ∧ L = []) := by
  rintro ⟨h1, h2, h3, h4, h5, h6⟩
  have hl := ow_len (f := f) (t := t) (node := 1) (ep := 0)
  have hok : Hok ((pieces f t).map (mkOw 1 0)) := Hok_pieces h1 h2 (by omega)
  by_cases hin : ∀ y, U y → inPs (pieces f2 t2) y → inPs (pieces f t) y
  · refine Fn_of N.roslaw15_GiveOnce_f rfl rfl fun fr => ?_
    try dsimp only [List.append_eq, List.cons_append, List.nil_append]
    repeat' (first | refine T_seq ?_ | refine T_regionR Tt (by kernel_rfl) ?_ | refine T_drawR Tt N.roslaw15_GiveOnce_d mixed (by kernel_rfl) ?_ | refine W_go Tt rfl ?_ | refine W_nil ?_ | refine T_cond_true rfl ?_ | refine T_cond_false rfl ?_ | refine T_skip ?_ | refine T_ret ?_ | with_reducible refine R_then ?_ | with_reducible refine R_norm ?_ | refine A_cmpT Tt ?_ | refine A_cmpF Tt ?_ | refine A_cmpY Tt ?_ | refine A_cmpN Tt ?_ | refine A_eqSY Tt eq_Arc ?_ | (refine A_eqS Tt eq_Arc ?_ ?_ <;> intro hc) | (refine A_cmp Tt ?_ ?_ <;> intro hc) | refine A_skip Tt ?_ | refine A_ldPts Tt ?_ | refine A_ldSl Tt ?_ | refine S_ix Tt ?_ | refine S_ixA Tt ?_ | refine A_el Tt ?_ | refine A_el1 Tt ?_ | refine A_el2 Tt ?_ | (refine A_box Tt ?_; intro b) | (refine A_call Tt N.roslaw15_alive_is (sp_alive15) (trivial) ?_; rintro v L ⟨rfl, rfl⟩ <;> dsimp only [List.cons_append, List.nil_append]) | (refine A_call Tt N.roslaw15_Loaded_is (sp_Loaded_nil) ((Int.le_refl 0)) ?_; rintro v L ⟨q, r, sp, oc, oa, hw, rfl, rfl⟩ <;> dsimp only [List.cons_append, List.nil_append]) | (refine A_call Tt N.give_Start_is (sp_Start_self (me := 1)) (trivial) ?_; rintro v L ⟨rfl, rfl⟩ <;> dsimp only [List.cons_append, List.nil_append]) | (refine A_call Tt N.give_Start_is (sp_Start_one (f := f2) (t := t2) (me := 1) (to := 2) (id := 3) (E := 0) (ow := (pieces f t).map (mkOw 1 0)) (node := 1) (most := 200) (kept := 0) (gf := 0) (gt := 0) (gp := .slice none 0 0)) (⟨by decide, hw, by omega, hok, h3, h4, by omega, by omega, ow_ep, fun y hy hi => own_pieces.2 (hin y hy hi)⟩) ?_; rintro v L ⟨g, lb, rfl, rfl⟩ <;> dsimp only [List.cons_append, List.nil_append]) | (refine A_call Tt N.arc_Within_is (sp_Within_yes) (⟨h1, h2, h3, h4, hin⟩) ?_; rintro v L ⟨rfl, rfl⟩ <;> dsimp only [List.cons_append, List.nil_append]) | (refine A_call Tt N.give_Start_is (sp_Start_busy (me := 1) (to := 3) (h := ⟨1, 200, 0, oa, oc, (pieces f t).map (mkOw 1 0), sp, true, f2, t2, .slice none 0 0⟩)) (⟨rfl, by decide⟩) ?_; rintro v L ⟨rfl, rfl⟩ <;> dsimp only [List.cons_append, List.nil_append]) | fail)
    (change bodyQ PP _ [fr] _ _ _ _ _; refine ⟨rfl, _, _, _, (.tmp .nil), ⟨rfl, rfl⟩, takeS⟩)
  · have hex : ∃ y, U y ∧ inPs (pieces f2 t2) y ∧ pieceAt ((pieces f t).map (mkOw 1 0)) y = none := by
      obtain ⟨y, hy⟩ := Classical.not_forall.1 hin
      obtain ⟨hu, hy⟩ := Classical.not_imp.1 hy
      obtain ⟨hi, hn⟩ := Classical.not_imp.1 hy
      refine ⟨y, hu, hi, ?_⟩
      cases hp : pieceAt ((pieces f t).map (mkOw 1 0)) y with
      | none => rfl
      | some o => exact absurd (own_pieces.1 (by rw [hp]; rfl)) hn
    refine Fn_of N.roslaw15_GiveOnce_f rfl rfl fun fr => ?_
    try dsimp only [List.append_eq, List.cons_append, List.nil_append]
    repeat' (first | refine T_seq ?_ | refine T_regionR Tt (by kernel_rfl) ?_ | refine T_drawR Tt N.roslaw15_GiveOnce_d mixed (by kernel_rfl) ?_ | refine W_go Tt rfl ?_ | refine W_nil ?_ | refine T_cond_true rfl ?_ | refine T_cond_false rfl ?_ | refine T_skip ?_ | refine T_ret ?_ | with_reducible refine R_then ?_ | with_reducible refine R_norm ?_ | refine A_cmpT Tt ?_ | refine A_cmpF Tt ?_ | refine A_cmpY Tt ?_ | refine A_cmpN Tt ?_ | refine A_eqSY Tt eq_Arc ?_ | (refine A_eqS Tt eq_Arc ?_ ?_ <;> intro hc) | (refine A_cmp Tt ?_ ?_ <;> intro hc) | refine A_skip Tt ?_ | refine A_ldPts Tt ?_ | refine A_ldSl Tt ?_ | refine S_ix Tt ?_ | refine S_ixA Tt ?_ | refine A_el Tt ?_ | refine A_el1 Tt ?_ | refine A_el2 Tt ?_ | (refine A_box Tt ?_; intro b) | (refine A_call Tt N.roslaw15_alive_is (sp_alive15) (trivial) ?_; rintro v L ⟨rfl, rfl⟩ <;> dsimp only [List.cons_append, List.nil_append]) | (refine A_call Tt N.roslaw15_Loaded_is (sp_Loaded_nil) ((Int.le_refl 0)) ?_; rintro v L ⟨q, r, sp, oc, oa, hw, rfl, rfl⟩ <;> dsimp only [List.cons_append, List.nil_append]) | (refine A_call Tt N.give_Start_is (sp_Start_self (me := 1)) (trivial) ?_; rintro v L ⟨rfl, rfl⟩ <;> dsimp only [List.cons_append, List.nil_append]) | (refine A_call Tt N.give_Start_is (sp_Start_arg (me := 1) (to := 2) (h := ⟨1, 200, 0, oa, oc, (pieces f t).map (mkOw 1 0), sp, false, 0, 0, .slice none 0 0⟩)) (⟨by decide, rfl, hw, by dsimp only; omega, hok, h3, h4, hex⟩) ?_; rintro v L ⟨rfl, rfl⟩ <;> dsimp only [List.cons_append, List.nil_append]) | (refine A_call Tt N.arc_Within_is (sp_Within_no) (⟨h1, h2, h3, h4, hin⟩) ?_; rintro v L ⟨rfl, rfl⟩ <;> dsimp only [List.cons_append, List.nil_append]) | fail)
    (change bodyQ PP _ [fr] _ _ _ _ _; refine ⟨rfl, _, _, _, (.tmp .nil), ⟨rfl, rfl⟩, takeS⟩)
end Go.Rz

