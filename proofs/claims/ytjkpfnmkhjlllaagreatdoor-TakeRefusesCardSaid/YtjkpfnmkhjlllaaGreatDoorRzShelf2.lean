/- walk: Arc, Collect. -/
import Derived.Test.YtjkpfnmkhjlllaaGreatDoorRzShelf1
set_option linter.unusedVariables false
set_option linter.unusedSimpArgs false
open Go Go.Rz
set_option maxRecDepth 4000
namespace Go.Rz
structure AX where
  i : Nat
  j : Nat
theorem flatMap_take_succ {α β : Type} {l : List α} {g : α → List β} {i : Nat} {x : α} (h : l[i]? = some x) : (l.take (i + 1)).flatMap g = (l.take i).flatMap g ++ g x := by
  rw [List.take_add_one, h]; simp
theorem take_filter_succ {α : Type} {l : List α} {g : α → Bool} {i : Nat} {x : α} (h : l[i]? = some x) : (l.take (i + 1)).filter g = (l.take i).filter g ++ (if g x then [x] else []) := by
  rw [List.take_add_one, h]; simp [List.filter_cons]
theorem arc_get {f t : Int} {l : List It} {i j : Nat} {p : Int × Int} {x : It} (hp : (pieces f t)[i]? = some p) (hx : l[j]? = some x) (h : inP p (addr x.k)) :
    (arcL f t l)[(((pieces f t).take i).flatMap fun p => pieceL p l).length + (pieceL p (l.take j)).length]? = some x := by
  unfold arcL
  rw [split_at hp]
  have h1 := (List.getElem?_eq_some_iff.1 hp).1
  rw [List.flatMap_append, List.flatMap_cons]
  rw [List.take_append_of_le_length (by simp; omega), List.take_of_length_le (l := (pieces f t).take i) (by simp; omega)]
  rw [List.getElem?_append_right (by omega), Nat.add_sub_cancel_left]
  have h2 : pieceL p l = pieceL p (l.take j) ++ x :: pieceL p (l.drop (j + 1)) := by
    conv => lhs; rw [split_at hx]
    unfold pieceL
    rw [List.filter_append, List.filter_cons, if_pos (by rw [tt_iff]; exact h)]
  rw [h2, List.append_assoc, List.getElem?_append_right (by omega), Nat.sub_self]
  rfl
theorem pieces_nonneg {f t : Int} {p : Int × Int} (h : p ∈ pieces f t) (hf : 0 ≤ f) (ht : 0 ≤ t) : 0 ≤ p.1 ∧ 0 ≤ p.2 := by
  unfold pieces at h
  split at h <;> simp at h
  · subst h; exact ⟨hf, ht⟩
  · rcases h with rfl | rfl <;> simp [hf, ht]
theorem iter_Arc {B : Base} {b1 b2 s : Nat} {most f t : Int} {l : List It} (hlen : l.length ≤ 1000) (hf : 0 ≤ f) (ht : 0 ≤ t) :
    Iter PP B N.walk_Arc_1 #[] #[.pointer (some ⟨b1, 0, none⟩), .pointer (some ⟨b2, 0, none⟩)] (arcStp (arcL f t l)) 0 [pts b1 0 [.pointer (some ⟨s, 0, none⟩)], pts b2 0 [.int .u64 f, .int .u64 t], shP s most l]
      (fun i A' => i = (arcL f t l).length ∧ A' = [shP s most l]) (fun i A' => A' = [shP s most l]) := by
  refine Iter.of fun Y J X hY => ?_
  have hpl := pieces_le f t
  refine Fn.mono (Ps := fun v L => (v = .tuple #[] ∧ L = [shP s most l, J (arcL f t l).length]) ∨ (v = .tuple #[] ∧ ∃ i, L = [shP s most l, X i])) ?_ ?_
  rotate_left
  · rintro v L (⟨-, rfl⟩ | ⟨-, i, rfl⟩)
    · exact ⟨[shP s most l], _, .inl ⟨⟨rfl, rfl⟩, rfl⟩⟩
    · exact ⟨[shP s most l], i, .inr ⟨rfl, rfl⟩⟩
  refine Fn_of N.walk_Arc_1_f rfl rfl fun fr => ?_
  try dsimp only [List.append_eq, List.cons_append, List.nil_append]
  repeat' (first | refine T_seq ?_ | refine T_regionR Tt (by kernel_rfl) ?_ | refine W_go Tt rfl ?_ | refine W_nil ?_ | refine T_cond_true rfl ?_ | refine T_cond_false rfl ?_ | refine T_skip ?_ | refine T_exit ?_ | refine T_block ?_ | refine T_scope ?_ | refine T_label ?_ | with_reducible refine R_block ?_ | with_reducible refine R_then ?_ | with_reducible refine R_norm ?_ | with_reducible refine R_scope ?_ | with_reducible refine R_exitEq ?_ | refine R_exitNe ?_ | with_reducible refine R_thenX ?_ | with_reducible refine R_scopeX ?_ | with_reducible refine R_blockN ?_ | with_reducible refine R_scopeN ?_ | refine A_cmpT Tt ?_ | refine A_cmpF Tt ?_ | (refine A_cmp Tt ?_ ?_ <;> intro hc) | refine A_skip Tt ?_ | refine A_ldPts Tt ?_ | refine A_ldSl Tt ?_ | refine S_ix Tt ?_ | refine S_ixA Tt ?_ | refine A_el Tt ?_ | refine A_el1 Tt ?_ | refine A_el2 Tt ?_ | refine A_store Tt ?_ | refine A_stEl Tt ?_ | (refine A_alloc Tt ?_; intro b) | (refine A_call Tt N.shelf_Shelf_Items_is (sp_Items) (hlen) ?_; rintro v L ⟨ia, ic, hia, rfl, rfl⟩ <;> dsimp only [List.cons_append, List.nil_append]) | (refine A_call Tt N.arc_Pieces_is (sp_pieces) (trivial) ?_; rintro v L ⟨pb, rfl, rfl⟩ <;> dsimp only [List.cons_append, List.nil_append]) | fail)
  refine T_loopE (X := Nat) (fun i => [(0, Y), (4, .slice ia l.length ic), (13, .slice (some ⟨pb, 0, none⟩) (pieces f t).length (pieces f t).length), (14, .int .i64 (pieces f t).length), (15, .int .i64 i)])
    (fun i => [shP s most l, sl ia l.length ic 2 (flat itC l), sl (some ⟨pb, 0, none⟩) (pieces f t).length (pieces f t).length 2 (flat arcC (pieces f t)), J (((pieces f t).take i).flatMap fun p => pieceL p l).length, fr])
    (fun i => (pieces f t).length + 1 - i) (fun i => i ≤ (pieces f t).length) 0 (by omega) (by exact ⟨rfl, rfl, rfl, rfl, rfl, trivial⟩) takeS ?_
  rintro i d hi
  by_cases hlt : i < (pieces f t).length
  · obtain ⟨p, hp⟩ : ∃ x, (pieces f t)[i]? = some x := ⟨_, List.getElem?_eq_getElem hlt⟩
    repeat' (first | refine T_seq ?_ | refine T_regionR Tt (by kernel_rfl) ?_ | refine W_go Tt rfl ?_ | refine W_nil ?_ | refine T_cond_true rfl ?_ | refine T_cond_false rfl ?_ | refine T_skip ?_ | refine T_exit ?_ | refine T_block ?_ | refine T_scope ?_ | refine T_label ?_ | with_reducible refine R_block ?_ | with_reducible refine R_then ?_ | with_reducible refine R_norm ?_ | with_reducible refine R_scope ?_ | with_reducible refine R_exitEq ?_ | refine R_exitNe ?_ | with_reducible refine R_thenX ?_ | with_reducible refine R_scopeX ?_ | with_reducible refine R_blockN ?_ | with_reducible refine R_scopeN ?_ | refine A_cmpT Tt ?_ | refine A_cmpF Tt ?_ | (refine A_cmp Tt ?_ ?_ <;> intro hc) | refine A_skip Tt ?_ | refine A_ldPts Tt ?_ | refine A_ldSl Tt ?_ | refine S_ix Tt ?_ | refine S_ixA Tt ?_ | refine A_el Tt ?_ | refine A_el1 Tt ?_ | refine A_el2 Tt ?_ | refine A_store Tt ?_ | refine A_stEl Tt ?_ | (refine A_alloc Tt ?_; intro b) | fail)
    · refine T_loopE (X := Nat) (fun j => [(0, Y), (4, .slice ia l.length ic), (13, .slice (some ⟨pb, 0, none⟩) (pieces f t).length (pieces f t).length), (14, .int .i64 (pieces f t).length), (15, .int .i64 i), (6, .pointer (some ⟨b, 0, none⟩)), (19, .slice ia l.length ic), (20, .int .i64 l.length), (21, .int .i64 j)])
        (fun j => [shP s most l, sl ia l.length ic 2 (flat itC l), sl (some ⟨pb, 0, none⟩) (pieces f t).length (pieces f t).length 2 (flat arcC (pieces f t)), pts b 0 [.int .u64 p.1, .int .u64 p.2], J ((((pieces f t).take i).flatMap fun p => pieceL p l).length + (pieceL p (l.take j)).length), fr])
        (fun j => l.length + 1 - j) (fun j => j ≤ l.length) 0 (by omega) (by exact ⟨rfl, rfl, rfl, rfl, rfl, rfl, rfl, rfl, rfl, trivial⟩) takeS ?_
      rintro j d hj
      have fin : j = l.length → (((pieces f t).take (i + 1)).flatMap fun p => pieceL p l).length = (((pieces f t).take i).flatMap fun p => pieceL p l).length + (pieceL p (l.take j)).length := fun e => by
        rw [flatMap_take_succ hp, List.length_append, List.take_of_length_le (l := l) (i := j) (by omega)]
      rcases hia with ⟨rfl, h0, rfl⟩ | ⟨ib, off, rfl, hle⟩
      · repeat' (first | refine T_seq ?_ | refine T_regionR Tt (by kernel_rfl) ?_ | refine W_go Tt rfl ?_ | refine W_nil ?_ | refine T_cond_true rfl ?_ | refine T_cond_false rfl ?_ | refine T_skip ?_ | refine T_exit ?_ | refine T_block ?_ | refine T_scope ?_ | refine T_label ?_ | with_reducible refine R_block ?_ | with_reducible refine R_then ?_ | with_reducible refine R_norm ?_ | with_reducible refine R_scope ?_ | with_reducible refine R_exitEq ?_ | refine R_exitNe ?_ | with_reducible refine R_thenX ?_ | with_reducible refine R_scopeX ?_ | with_reducible refine R_blockN ?_ | with_reducible refine R_scopeN ?_ | refine A_cmpT Tt ?_ | refine A_cmpF Tt ?_ | (refine A_cmp Tt ?_ ?_ <;> intro hc) | refine A_skip Tt ?_ | refine A_ldPts Tt ?_ | refine A_ldSl Tt ?_ | refine S_ix Tt ?_ | refine S_ixA Tt ?_ | refine A_el Tt ?_ | refine A_el1 Tt ?_ | refine A_el2 Tt ?_ | refine A_store Tt ?_ | refine A_stEl Tt ?_ | (refine A_alloc Tt ?_; intro b) | fail)
        · exact absurd hc (by omega)
        · refine ⟨rfl, i + 1, by omega, by omega, ⟨rfl, rfl, rfl, rfl, inc_ok (by omega), trivial⟩, ?_⟩
          rw [fin (by omega)]
          exact ⟨_, takeS⟩
      · by_cases hjl : j < l.length
        · obtain ⟨x, hx⟩ : ∃ x, l[j]? = some x := ⟨_, List.getElem?_eq_getElem hjl⟩
          by_cases hin : inP p (addr x.k)
          · have hst := hY _ _ _ ⟨x, arc_get hp hx hin, rfl, rfl⟩
            have e1 : (pieceL p (l.take (j + 1))).length = (pieceL p (l.take j)).length + 1 := by
              unfold pieceL; rw [take_filter_succ hx, if_pos (by rw [tt_iff]; exact hin)]; simp
            have hin' := hin
            unfold inP at hin'
            repeat' (first | refine T_seq ?_ | refine T_regionR Tt (by kernel_rfl) ?_ | refine W_go Tt rfl ?_ | refine W_nil ?_ | refine T_cond_true rfl ?_ | refine T_cond_false rfl ?_ | refine T_skip ?_ | refine T_exit ?_ | refine T_block ?_ | refine T_scope ?_ | refine T_label ?_ | with_reducible refine R_block ?_ | with_reducible refine R_then ?_ | with_reducible refine R_norm ?_ | with_reducible refine R_scope ?_ | with_reducible refine R_exitEq ?_ | refine R_exitNe ?_ | with_reducible refine R_thenX ?_ | with_reducible refine R_scopeX ?_ | with_reducible refine R_blockN ?_ | with_reducible refine R_scopeN ?_ | refine A_cmpT Tt ?_ | refine A_cmpF Tt ?_ | (refine A_cmp Tt ?_ ?_ <;> intro hc) | refine A_skip Tt ?_ | refine A_ldPts Tt ?_ | refine A_ldSl Tt ?_ | refine S_ix Tt ?_ | refine S_ixA Tt ?_ | refine A_el Tt ?_ | refine A_el1 Tt ?_ | refine A_el2 Tt ?_ | refine A_store Tt ?_ | refine A_stEl Tt ?_ | (refine A_alloc Tt ?_; intro b) | (refine A_call Tt N.key_Addr_is (sp_key_Addr) (trivial) ?_; rintro v L ⟨rfl, rfl⟩ <;> dsimp only [List.cons_append, List.nil_append]) | (refine A_callV Tt (fun _ => hst) True.intro ?_; rintro v L (⟨rfl, rfl⟩ | ⟨rfl, rfl⟩) <;> dsimp only [List.cons_append, List.nil_append]) | fail)
            · exact absurd hc (by omega)
            · exact absurd hc (by omega)
            · refine ⟨rfl, j + 1, by omega, by omega, ⟨rfl, rfl, rfl, rfl, rfl, rfl, rfl, rfl, inc_ok (by omega), trivial⟩, ?_⟩
              rw [e1, ← Nat.add_assoc]; exact ⟨_, takeS⟩
            · (change bodyQ PP _ [fr] _ _ _ _ _; refine ⟨rfl, _, _, _, .nil, .inr ⟨rfl, _, rfl⟩, takeS⟩)
            · refine ⟨rfl, j + 1, by omega, by omega, ⟨rfl, rfl, rfl, rfl, rfl, rfl, rfl, rfl, inc_ok (by omega), trivial⟩, ?_⟩
              rw [e1, ← Nat.add_assoc]; exact ⟨_, takeS⟩
            · (change bodyQ PP _ [fr] _ _ _ _ _; refine ⟨rfl, _, _, _, .nil, .inr ⟨rfl, _, rfl⟩, takeS⟩)
            · exact absurd hc (by omega)
          · have e1 : (pieceL p (l.take (j + 1))).length = (pieceL p (l.take j)).length := by
              unfold pieceL; rw [take_filter_succ hx, if_neg (by rw [tt_iff]; exact hin)]; simp
            have hin' := hin
            unfold inP at hin'
            repeat' (first | refine T_seq ?_ | refine T_regionR Tt (by kernel_rfl) ?_ | refine W_go Tt rfl ?_ | refine W_nil ?_ | refine T_cond_true rfl ?_ | refine T_cond_false rfl ?_ | refine T_skip ?_ | refine T_exit ?_ | refine T_block ?_ | refine T_scope ?_ | refine T_label ?_ | with_reducible refine R_block ?_ | with_reducible refine R_then ?_ | with_reducible refine R_norm ?_ | with_reducible refine R_scope ?_ | with_reducible refine R_exitEq ?_ | refine R_exitNe ?_ | with_reducible refine R_thenX ?_ | with_reducible refine R_scopeX ?_ | with_reducible refine R_blockN ?_ | with_reducible refine R_scopeN ?_ | refine A_cmpT Tt ?_ | refine A_cmpF Tt ?_ | (refine A_cmp Tt ?_ ?_ <;> intro hc) | refine A_skip Tt ?_ | refine A_ldPts Tt ?_ | refine A_ldSl Tt ?_ | refine S_ix Tt ?_ | refine S_ixA Tt ?_ | refine A_el Tt ?_ | refine A_el1 Tt ?_ | refine A_el2 Tt ?_ | refine A_store Tt ?_ | refine A_stEl Tt ?_ | (refine A_alloc Tt ?_; intro b) | (refine A_call Tt N.key_Addr_is (sp_key_Addr) (trivial) ?_; rintro v L ⟨rfl, rfl⟩ <;> dsimp only [List.cons_append, List.nil_append]) | fail)
            · refine ⟨rfl, j + 1, by omega, by omega, ⟨rfl, rfl, rfl, rfl, rfl, rfl, rfl, rfl, inc_ok (by omega), trivial⟩, ?_⟩
              rw [e1]; exact ⟨_, takeS⟩
            · refine ⟨rfl, j + 1, by omega, by omega, ⟨rfl, rfl, rfl, rfl, rfl, rfl, rfl, rfl, inc_ok (by omega), trivial⟩, ?_⟩
              rw [e1]; exact ⟨_, takeS⟩
            · exact absurd hc (by omega)
            · exact absurd hc (by have := pieces_nonneg (f := f) (t := t) (List.mem_of_getElem? hp) hf ht; omega)
            · exact absurd hc (by omega)
        · repeat' (first | refine T_seq ?_ | refine T_regionR Tt (by kernel_rfl) ?_ | refine W_go Tt rfl ?_ | refine W_nil ?_ | refine T_cond_true rfl ?_ | refine T_cond_false rfl ?_ | refine T_skip ?_ | refine T_exit ?_ | refine T_block ?_ | refine T_scope ?_ | refine T_label ?_ | with_reducible refine R_block ?_ | with_reducible refine R_then ?_ | with_reducible refine R_norm ?_ | with_reducible refine R_scope ?_ | with_reducible refine R_exitEq ?_ | refine R_exitNe ?_ | with_reducible refine R_thenX ?_ | with_reducible refine R_scopeX ?_ | with_reducible refine R_blockN ?_ | with_reducible refine R_scopeN ?_ | refine A_cmpT Tt ?_ | refine A_cmpF Tt ?_ | (refine A_cmp Tt ?_ ?_ <;> intro hc) | refine A_skip Tt ?_ | refine A_ldPts Tt ?_ | refine A_ldSl Tt ?_ | refine S_ix Tt ?_ | refine S_ixA Tt ?_ | refine A_el Tt ?_ | refine A_el1 Tt ?_ | refine A_el2 Tt ?_ | refine A_store Tt ?_ | refine A_stEl Tt ?_ | (refine A_alloc Tt ?_; intro b) | fail)
          · exact absurd hc (by omega)
          · refine ⟨rfl, i + 1, by omega, by omega, ⟨rfl, rfl, rfl, rfl, inc_ok (by omega), trivial⟩, ?_⟩
            rw [fin (by omega)]
            exact ⟨_, takeS⟩
    · exact absurd hc (by omega)
  · repeat' (first | refine T_seq ?_ | refine T_regionR Tt (by kernel_rfl) ?_ | refine W_go Tt rfl ?_ | refine W_nil ?_ | refine T_cond_true rfl ?_ | refine T_cond_false rfl ?_ | refine T_skip ?_ | refine T_exit ?_ | refine T_block ?_ | refine T_scope ?_ | refine T_label ?_ | with_reducible refine R_block ?_ | with_reducible refine R_then ?_ | with_reducible refine R_norm ?_ | with_reducible refine R_scope ?_ | with_reducible refine R_exitEq ?_ | refine R_exitNe ?_ | with_reducible refine R_thenX ?_ | with_reducible refine R_scopeX ?_ | with_reducible refine R_blockN ?_ | with_reducible refine R_scopeN ?_ | refine A_cmpT Tt ?_ | refine A_cmpF Tt ?_ | (refine A_cmp Tt ?_ ?_ <;> intro hc) | refine A_skip Tt ?_ | refine A_ldPts Tt ?_ | refine A_ldSl Tt ?_ | refine S_ix Tt ?_ | refine S_ixA Tt ?_ | refine A_el Tt ?_ | refine A_el1 Tt ?_ | refine A_el2 Tt ?_ | refine A_store Tt ?_ | refine A_stEl Tt ?_ | (refine A_alloc Tt ?_; intro b) | fail)
    · exact absurd hc (by omega)
    · rw [show (pieces f t).take i = pieces f t from List.take_of_length_le (by omega)]
      (change bodyQ PP _ [fr] _ _ _ _ _; refine ⟨rfl, _, _, _, .nil, .inl ⟨rfl, rfl⟩, takeS⟩)
end Go.Rz

