/- hold: Arcs. -/
import Derived.Test.YtjkpfnmkhjlllaaGreatDoorRzView
import Derived.Test.YtjkpfnmkhjlllaaGreatDoorRzHold3
set_option linter.unusedVariables false
set_option linter.unusedSimpArgs false
open Go Go.Rz
set_option maxRecDepth 4000
set_option maxHeartbeats 40000000
namespace Go.Rz
theorem cutL_pos (L : List Pv) (x : Int) : 0 < (cutL L x).length := by
  unfold cutL
  by_cases h : L.length = 0
  · rw [if_pos h]; unfold cut1; split
    · split <;> simp
    · simp
  · rw [if_neg h]; unfold cut1; split
    · split
      · omega
      · simp; omega
    · omega
theorem learnP_pos (node ep : Int) (L : List Pv) (p : Int × Int) : 0 < (learnP node ep L p).length := by
  unfold learnP cut2
  rw [List.length_map]
  split
  · exact cutL_pos _ _
  · exact cutL_pos _ _
theorem learnL_le (L : List Pv) (f t node ep : Int) : (learnL L f t node ep).length ≤ L.length + 8 := by
  have h1 : ∀ (l : List (Int × Int)) (L : List Pv), (l.foldl (learnP node ep) L).length ≤ L.length + 4 * l.length := by
    intro l
    induction l with
    | nil => simp
    | cons p l ih => intro L; have h1 := ih (learnP node ep L p); have h2 := learnP_le node ep L p; simp only [List.foldl_cons, List.length_cons]; omega
  have h2 := h1 (vpieces f t) L
  have h3 := vpieces_le f t
  have : learnL L f t node ep = (vpieces f t).foldl (learnP node ep) L := rfl
  rw [this]; omega
theorem learnL_pos (L : List Pv) (f t node ep : Int) : 0 < (learnL L f t node ep).length := by
  have : learnL L f t node ep = (vpieces f t).foldl (learnP node ep) L := rfl
  rw [this]
  unfold vpieces
  split
  · exact learnP_pos ..
  · split
    · exact learnP_pos ..
    · exact learnP_pos ..
/-- What a hold's owned arcs make together. -/
noncomputable def arcsV (ow : List Ow) : List Pv := ow.foldl (fun L o => learnL L o.f o.t 0 o.ep) []
def nodeO (n : Int) (o : Ow) : Ow := { o with node := n }
noncomputable def arcsH (node : Int) (ow : List Ow) : List Ow := (arcsL (arcsV ow)).map (nodeO node)
theorem arcsV_take {ow : List Ow} {i : Nat} {o : Ow} (h : ow[i]? = some o) : arcsV (ow.take (i + 1)) = learnL (arcsV (ow.take i)) o.f o.t 0 o.ep := by
  unfold arcsV; rw [List.take_add_one, h]; simp [List.foldl_append]
theorem arcsV_le : ∀ (ow : List Ow) (i : Nat), (arcsV (ow.take i)).length ≤ 8 * i := by
  intro ow i
  induction i with
  | zero => simp [arcsV]
  | succ i ih =>
    cases h : ow[i]? with
    | none =>
      have h1 := List.getElem?_eq_none_iff.1 h
      rw [List.take_of_length_le (by omega)]; rw [List.take_of_length_le h1] at ih; omega
    | some o => rw [arcsV_take h]; have := learnL_le (arcsV (ow.take i)) o.f o.t 0 o.ep; omega
def colO (b : Nat) (R : List Ow) : HProp := ex fun x : Option Addr × Nat => [pr (wf x.1 R.length x.2), pts b 0 [.slice x.1 R.length x.2], sl x.1 R.length x.2 4 (flat ownC R)]
theorem colO_nil {b : Nat} {S : List HProp} : Ent (pts b 0 [.slice none 0 0] :: S) (colO b [] :: S) := fun h H =>
  Ent.ex (A := fun x : Option Addr × Nat => [pr (wf x.1 0 x.2), pts b 0 [.slice x.1 0 x.2], sl x.1 0 x.2 4 []]) (none, 0) h (Ent.pr (.inl ⟨rfl, rfl, rfl⟩) h (seps_swap ⟨Heap.emp, h, ⟨rfl, .inl ⟨rfl, rfl, rfl⟩, by simp⟩, H, fun _ _ => .inl rfl, fun _ _ _ e => (by cases e), sub_refl h⟩))
theorem colO_in {b n cp : Nat} {a : Option Addr} {R : List Ow} {us : List Value} {S : List HProp} (hn : R.length = n) (hu : us = flat ownC R) (hw : wf a n cp) : Ent (pts b 0 [.slice a n cp] :: sl a n cp 4 us :: S) (colO b R :: S) := fun h H => by
  subst hn; subst hu
  exact Ent.ex (A := fun x : Option Addr × Nat => [pr (wf x.1 R.length x.2), pts b 0 [.slice x.1 R.length x.2], sl x.1 R.length x.2 4 (flat ownC R)]) (a, cp) h (Ent.pr hw h H)
def arcJ (b1 b6 p : Nat) (h : Hd) (L : List Ow) (i : Nat) : List HProp := [pr (i ≤ L.length), pts b1 0 [.pointer (some ⟨p, 0, none⟩)], pts p 0 (hdC h), colO b6 ((L.take i).map (nodeO h.node))]
theorem sp_hold_Arcs {B : Base} {p : Nat} {h : Hd} : (wf h.oa h.ow.length h.oc ∧ h.ow.length ≤ 1000 ∧ ∀ o ∈ h.ow, 0 ≤ o.f ∧ 0 ≤ o.t ∧ 0 ≤ o.ep) →
    Fn PP B N.hold_Hold_Arcs [.pointer (some ⟨p, 0, none⟩)] [pts p 0 (hdC h), sl h.oa h.ow.length h.oc 4 (flat ownC h.ow)]
    (fun v M => ∃ a cap, wf a (arcsH h.node h.ow).length cap ∧ v = .slice a (arcsH h.node h.ow).length cap ∧ M = [pts p 0 (hdC h), sl h.oa h.ow.length h.oc 4 (flat ownC h.ow), sl a (arcsH h.node h.ow).length cap 4 (flat ownC (arcsH h.node h.ow))]) := by
  obtain ⟨node, most, kept, oa, oc, ow, sp, sh, gf, gt, gp⟩ := h
  dsimp only
  rintro ⟨hwf, hlen, hok⟩
  refine Fn_ofM N.hold_Hold_Arcs_f rfl rfl fun fr => ?_
  try dsimp only [List.append_eq, List.cons_append, List.nil_append]
  repeat' (first | refine T_seq ?_ | refine T_regionR Tt (by kernel_rfl) ?_ | refine W_go Tt rfl ?_ | refine W_nil ?_ | refine T_cond_true rfl ?_ | refine T_cond_false rfl ?_ | refine T_skip ?_ | refine T_ret ?_ | refine T_exit ?_ | refine T_block ?_ | with_reducible refine R_block ?_ | with_reducible refine R_then ?_ | with_reducible refine R_norm ?_ | with_reducible refine R_exitEq ?_ | refine R_exitNe ?_ | with_reducible refine R_thenX ?_ | with_reducible refine R_scopeX ?_ | with_reducible refine R_blockN ?_ | refine A_cmpT Tt ?_ | refine A_cmpF Tt ?_ | (refine A_cmp Tt ?_ ?_ <;> intro hc) | refine A_ldPts Tt ?_ | refine A_ldSl Tt ?_ | refine S_ix Tt ?_ | refine S_ixA Tt ?_ | refine A_el Tt ?_ | refine A_el1 Tt ?_ | refine A_el2 Tt ?_ | refine A_store Tt ?_ | refine A_stEl Tt ?_ | (refine A_box Tt ?_; intro b) | (refine A_alloc Tt ?_; intro b) | (refine A_mk Tt ?_; intro b) | (refine A_app Tt ?_; intro a cp hwf) | (refine A_appNil Tt ?_; intro a cp hwf) | fail)
  rename_i b1
  obtain ⟨vb, hvb⟩ : ∃ x, x = b := ⟨_, rfl⟩
  subst hvb
  refine T_ent (Ent.sl0 (esz := 3)) ?_
  refine T_loopE (X := CX) (fun x => [(3, .pointer (some ⟨vb, 0, none⟩)), (1, .pointer (some ⟨b1, 0, none⟩)), (13, .slice oa ow.length oc), (14, .int .i64 ow.length), (15, .int .i64 x.i)])
    (fun x => [pts b1 0 [.pointer (some ⟨p, 0, none⟩)], pts p 0 (hdC ⟨node, most, kept, oa, oc, ow, sp, sh, gf, gt, gp⟩), sl oa ow.length oc 4 (flat ownC ow), pts vb 0 [.slice x.a x.n x.cp], sl x.a x.n x.cp 3 x.us, fr])
    (fun x => ow.length + 1 - x.i) (fun x => x.i ≤ ow.length ∧ wf x.a x.n x.cp ∧ x.n = (arcsV (ow.take x.i)).length ∧ x.us = flat pvC (arcsV (ow.take x.i)) ∧ (x.n = 0 → x.a = none ∧ x.cp = 0)) ⟨0, none, 0, 0, []⟩ ⟨by simp, .inl ⟨rfl, rfl, rfl⟩, by simp [arcsV], by simp [arcsV], fun _ => ⟨rfl, rfl⟩⟩ (by exact ⟨rfl, rfl, rfl, rfl, rfl, trivial⟩) takeS ?_
  rintro ⟨i, a1, cp1, n1, us1⟩ d ⟨hi, hw1, hn1, hu1, hz1⟩
  dsimp only at hi hw1 hn1 hu1 hz1 ⊢
  have hvl := arcsV_le ow i
  by_cases hlt : i < ow.length
  · rcases hwf with ⟨rfl, h0, rfl⟩ | ⟨ib, off, rfl, hle⟩
    · omega
    obtain ⟨o, ho⟩ : ∃ x, ow[i]? = some x := ⟨_, List.getElem?_eq_getElem hlt⟩
    have hoo := hok o (List.mem_of_getElem? ho)
    obtain ⟨acc, hacc⟩ : ∃ c, c = arcsV (ow.take i) := ⟨_, rfl⟩
    have hct := arcsV_take ho
    have hpos := learnL_pos acc o.f o.t 0 o.ep
    rw [← hacc] at hn1 hu1 hct hvl
    subst hn1; subst hu1
    repeat' (first | refine T_seq ?_ | refine T_regionR Tt (by kernel_rfl) ?_ | refine W_go Tt rfl ?_ | refine W_nil ?_ | refine T_cond_true rfl ?_ | refine T_cond_false rfl ?_ | refine T_skip ?_ | refine T_ret ?_ | refine T_exit ?_ | refine T_block ?_ | with_reducible refine R_block ?_ | with_reducible refine R_then ?_ | with_reducible refine R_norm ?_ | with_reducible refine R_exitEq ?_ | refine R_exitNe ?_ | with_reducible refine R_thenX ?_ | with_reducible refine R_scopeX ?_ | with_reducible refine R_blockN ?_ | refine A_cmpY Tt ?_ | refine A_cmpN Tt ?_ | (refine A_cmp Tt ?_ ?_ <;> intro hc) | refine A_ldPts Tt ?_ | refine A_ldSl Tt ?_ | refine S_ix Tt ?_ | refine S_ixA Tt ?_ | refine A_el Tt ?_ | refine A_el1 Tt ?_ | refine A_el2 Tt ?_ | refine A_store Tt ?_ | refine A_stEl Tt ?_ | (refine A_box Tt ?_; intro b) | (refine A_alloc Tt ?_; intro b) | (refine A_mk Tt ?_; intro b) | (refine A_app Tt ?_; intro a cp hwf) | (refine A_appNil Tt ?_; intro a cp hwf) | (refine A_call Tt N.view_View_Learn_is (sp_Learn (f := o.f) (t := o.t) (node := 0) (ep := o.ep)) (⟨hw1, by omega, hoo.2.2, by decide, by decide, hoo.1, hoo.2.1⟩) ?_; rintro v L ⟨la, lc, lb, hlw, rfl, rfl⟩ <;> dsimp only [List.cons_append, List.nil_append]) | fail)
    refine ⟨rfl, ⟨i + 1, la, lc, (learnL acc o.f o.t 0 o.ep).length, flat pvC (learnL acc o.f o.t 0 o.ep)⟩, ⟨by dsimp only; omega, hlw, by dsimp only; rw [hct], by dsimp only; rw [hct], fun h => absurd h (by dsimp only; omega)⟩, by dsimp only; omega, ⟨rfl, rfl, rfl, rfl, inc_ok (by omega), trivial⟩, _, takeS⟩
  · have hie : i = ow.length := by omega
    subst hie
    rw [List.take_length] at hn1 hu1 hvl
    obtain ⟨V, hV⟩ : ∃ V, V = arcsV ow := ⟨_, rfl⟩
    have eh : arcsH node ow = (arcsL V).map (nodeO node) := by rw [hV]; rfl
    rw [← hV] at hn1 hu1 hvl
    subst hn1; subst hu1
    rw [eh]
    obtain ⟨L, hL⟩ : ∃ L, L = arcsL V := ⟨_, rfl⟩
    have hit := fun vb2 => iter_AllG (B := B) (vb := vb2) (q := vb) (a := a1) (cap := cp1) (L := V) ⟨hw1, by omega, hz1⟩
    have hLl := arcs_le V
    rw [← hL] at hit hLl ⊢
    repeat' (first | refine T_seq ?_ | refine T_regionR Tt (by kernel_rfl) ?_ | refine W_go Tt rfl ?_ | refine W_nil ?_ | refine T_cond_true rfl ?_ | refine T_cond_false rfl ?_ | refine T_skip ?_ | refine T_ret ?_ | refine T_exit ?_ | refine T_block ?_ | with_reducible refine R_block ?_ | with_reducible refine R_then ?_ | with_reducible refine R_norm ?_ | with_reducible refine R_exitEq ?_ | refine R_exitNe ?_ | with_reducible refine R_thenX ?_ | with_reducible refine R_scopeX ?_ | with_reducible refine R_blockN ?_ | refine A_cmpY Tt ?_ | refine A_cmpN Tt ?_ | (refine A_cmp Tt ?_ ?_ <;> intro hc) | refine A_ldPts Tt ?_ | refine A_ldSl Tt ?_ | refine S_ix Tt ?_ | refine S_ixA Tt ?_ | refine A_el Tt ?_ | refine A_el1 Tt ?_ | refine A_el2 Tt ?_ | refine A_store Tt ?_ | refine A_stEl Tt ?_ | (refine A_box Tt ?_; intro b) | (refine A_alloc Tt ?_; intro b) | (refine A_mk Tt ?_; intro b) | (refine A_app Tt ?_; intro a cp hwf) | (refine A_appNil Tt ?_; intro a cp hwf) | (refine A_call Tt N.view_View_All_is (sp_All (q := vb)) (trivial) ?_; rintro v L ⟨vb2, rfl, rfl⟩ <;> dsimp only [List.cons_append, List.nil_append]) | fail)
    obtain ⟨b6, hb6⟩ : ∃ x, x = b := ⟨_, rfl⟩
    subst hb6
    refine T_ent (Ent.swap.trans (colO_nil (b := b6))) ?_
    refine T_ent (Ent.pr (p := (0 : Nat) ≤ L.length) (by omega)) ?_
    refine T_rangeFunc (J := arcJ b1 b6 p ⟨node, most, kept, oa, oc, ow, sp, sh, gf, gt, gp⟩ L) (Jx := fun _ _ => [pr False]) (stp := owStp L) (s0 := 0) (A := [pts vb2 0 [.pointer (some ⟨vb, 0, none⟩)], pts vb 0 [.slice a1 V.length cp1], sl a1 V.length cp1 3 (flat pvC V)]) rfl N.view_View_All_1_is (by decide) ?_ takeS (hit vb2) ?_ ?_ ?_
    · rintro s vals s' ⟨x, -, rfl, -⟩; rfl
    · rintro l fr' n s vals s' ⟨x, hx, rfl, rfl⟩
      dsimp only [arcJ, List.cons_append, List.nil_append]
      repeat' (first | refine T_seq ?_ | refine T_regionR Tt (by kernel_rfl) ?_ | refine W_go Tt rfl ?_ | refine W_nil ?_ | refine T_cond_true rfl ?_ | refine T_cond_false rfl ?_ | refine T_skip ?_ | refine T_ret ?_ | refine T_exit ?_ | refine T_block ?_ | with_reducible refine R_block ?_ | with_reducible refine R_then ?_ | with_reducible refine R_norm ?_ | with_reducible refine R_exitEq ?_ | refine R_exitNe ?_ | with_reducible refine R_thenX ?_ | with_reducible refine R_scopeX ?_ | with_reducible refine R_blockN ?_ | refine A_cmpT Tt ?_ | refine A_cmpF Tt ?_ | (refine A_cmp Tt ?_ ?_ <;> intro hc) | refine A_ldPts Tt ?_ | refine A_ldSl Tt ?_ | refine S_ix Tt ?_ | refine S_ixA Tt ?_ | refine A_el Tt ?_ | refine A_el1 Tt ?_ | refine A_el2 Tt ?_ | refine A_store Tt ?_ | refine A_stEl Tt ?_ | (refine A_box Tt ?_; intro b) | (refine A_alloc Tt ?_; intro b) | (refine A_mk Tt ?_; intro b) | (refine A_app Tt ?_; intro a cp hwf) | (refine A_appNil Tt ?_; intro a cp hwf) | fail)
      refine ⟨rfl, fun fr2 => ?_⟩
      dsimp only [List.dropLast, List.cons_append, List.nil_append]
      refine T_prp pk1 fun hs => ?_
      refine T_ex pk3 fun y => ?_
      dsimp only [List.cons_append, List.nil_append]
      refine T_prp pk0 fun hw => ?_
      obtain ⟨ya, yc⟩ := y
      have hsl : s < L.length := (List.getElem?_eq_some_iff.1 hx).1
      have ht2 : (L.take (s + 1)).map (nodeO node) = (L.take s).map (nodeO node) ++ [nodeO node x] := by rw [List.take_add_one, hx]; simp
      have htl : ((L.take s).map (nodeO node)).length ≤ 10000 := by simp; omega
      dsimp only at hw ⊢
      repeat' (first | refine T_seq ?_ | refine T_regionR Tt (by kernel_rfl) ?_ | refine W_go Tt rfl ?_ | refine W_nil ?_ | refine T_cond_true rfl ?_ | refine T_cond_false rfl ?_ | refine T_skip ?_ | refine T_ret ?_ | refine T_exit ?_ | refine T_block ?_ | with_reducible refine R_block ?_ | with_reducible refine R_then ?_ | with_reducible refine R_norm ?_ | with_reducible refine R_exitEq ?_ | refine R_exitNe ?_ | with_reducible refine R_thenX ?_ | with_reducible refine R_scopeX ?_ | with_reducible refine R_blockN ?_ | refine A_cmpT Tt ?_ | refine A_cmpF Tt ?_ | (refine A_cmp Tt ?_ ?_ <;> intro hc) | refine A_ldPts Tt ?_ | refine A_ldSl Tt ?_ | refine S_ix Tt ?_ | refine S_ixA Tt ?_ | refine A_el Tt ?_ | refine A_el1 Tt ?_ | refine A_el2 Tt ?_ | refine A_store Tt ?_ | refine A_stEl Tt ?_ | (refine A_box Tt ?_; intro b) | (refine A_alloc Tt ?_; intro b) | (refine A_mk Tt ?_; intro b) | (refine A_app Tt ?_; intro a cp hwf) | (refine A_appNil Tt ?_; intro a cp hwf) | fail)
      refine (Ent.takeL (L := [pts b6 0 [.slice a _ cp], sl a _ cp 4 (flat ownC ((L.take s).map (nodeO node)) ++ ownC (nodeO node x)), pts b1 0 [.pointer (some ⟨p, 0, none⟩)], pts p 0 (hdC ⟨node, most, kept, oa, oc, ow, sp, sh, gf, gt, gp⟩), fr2]) takeS).trans ?_
      refine (colO_in (R := (L.take (s + 1)).map (nodeO node)) (by rw [ht2]; simp) (by rw [ht2, flat_append, flat_one_elem]) hwf).trans ?_
      exact (Ent.rot (L := [_, _])).trans (Ent.pr (by omega))
    · intro D s A' hA
      obtain ⟨rfl, rfl⟩ := hA
      dsimp only [arcJ, List.cons_append, List.nil_append]
      refine R_blockN (R_norm ?_)
      refine T_prp pk3 fun hs => ?_
      refine T_ex pk5 fun y => ?_
      dsimp only [List.cons_append, List.nil_append]
      refine T_prp pk0 fun hw => ?_
      obtain ⟨ya, yc⟩ := y
      rw [List.take_length] at hw
      dsimp only at hw ⊢
      rw [List.take_length]
      repeat' (first | refine T_seq ?_ | refine T_regionR Tt (by kernel_rfl) ?_ | refine W_go Tt rfl ?_ | refine W_nil ?_ | refine T_cond_true rfl ?_ | refine T_cond_false rfl ?_ | refine T_skip ?_ | refine T_ret ?_ | refine T_exit ?_ | refine T_block ?_ | with_reducible refine R_block ?_ | with_reducible refine R_then ?_ | with_reducible refine R_norm ?_ | with_reducible refine R_exitEq ?_ | refine R_exitNe ?_ | with_reducible refine R_thenX ?_ | with_reducible refine R_scopeX ?_ | with_reducible refine R_blockN ?_ | refine A_cmpT Tt ?_ | refine A_cmpF Tt ?_ | (refine A_cmp Tt ?_ ?_ <;> intro hc) | refine A_ldPts Tt ?_ | refine A_ldSl Tt ?_ | refine S_ix Tt ?_ | refine S_ixA Tt ?_ | refine A_el Tt ?_ | refine A_el1 Tt ?_ | refine A_el2 Tt ?_ | refine A_store Tt ?_ | refine A_stEl Tt ?_ | (refine A_box Tt ?_; intro b) | (refine A_alloc Tt ?_; intro b) | (refine A_mk Tt ?_; intro b) | (refine A_app Tt ?_; intro a cp hwf) | (refine A_appNil Tt ?_; intro a cp hwf) | fail)
      (change bodyQM PP _ [fr] _ _ _ _ _; refine ⟨[D], _, rfl, takeS, _, _, _, (.tmp .nil), ⟨ya, yc, hw, rfl, rfl⟩, takeS⟩)
    · intro D s A' c hA
      subst hA
      dsimp only [List.cons_append, List.nil_append]
      exact T_prp pk3 fun h => h.elim
end Go.Rz

