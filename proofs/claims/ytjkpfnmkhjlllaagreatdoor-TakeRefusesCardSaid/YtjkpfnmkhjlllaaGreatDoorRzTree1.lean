/- shelf: what a tree is made of; what only looks at it. -/
import Derived.Test.YtjkpfnmkhjlllaaGreatDoorRzKey
set_option linter.unusedVariables false
set_option linter.unusedSimpArgs false
open Go Go.Rz
set_option maxRecDepth 4000
namespace Go.Rz
def itC (x : It) : List Value := [.string x.k, .string x.v]
def itV (x : It) : Value := .agg #[.string x.k, .string x.v]
instance : Uni itC 2 := ⟨fun _ => rfl, fun _ => rfl⟩
def ptC (p : Nat) : List Value := [.pointer (some ⟨p, 0, none⟩)]
instance : Uni ptC 1 := ⟨fun _ => rfl, fun _ => rfl⟩

/-! ### Trees -/
abbrev Kid := Nat × List It
def weave : List Kid → List It → List It
  | k :: ks, i :: is => k.2 ++ i :: weave ks is
  | k :: _, [] => k.2
  | [], _ => []
def pre : List Kid → List It → List It
  | k :: ks, i :: is => k.2 ++ i :: pre ks is
  | _, _ => []
def post : List It → List Kid → List It
  | i :: is, k :: ks => i :: k.2 ++ post is ks
  | _, _ => []
theorem weave_app : ∀ {k1 : List Kid} {i1 : List It} {k2 : List Kid} {i2 : List It}, k1.length = i1.length → weave (k1 ++ k2) (i1 ++ i2) = pre k1 i1 ++ weave k2 i2
  | [], [], _, _, _ => rfl
  | k :: k1, i :: i1, _, _, h => by simp [weave, pre, weave_app (k1 := k1) (i1 := i1) (by simpa using h)]
  | [], _ :: _, _, _, h => by simp at h
  | _ :: _, [], _, _, h => by simp at h
theorem weave_cons : ∀ {k : Kid} {ks : List Kid} {is : List It}, ks.length = is.length → weave (k :: ks) is = k.2 ++ post is ks
  | _, [], [], _ => by simp [weave, post]
  | _, k :: ks, i :: is, h => by simp [weave, post, weave_cons (k := k) (ks := ks) (is := is) (by simpa using h)]
  | _, [], _ :: _, h => by simp at h
  | _, _ :: _, [], h => by simp at h
theorem pre_app : ∀ {k1 : List Kid} {i1 : List It} {k2 : List Kid} {i2 : List It}, k1.length = i1.length → pre (k1 ++ k2) (i1 ++ i2) = pre k1 i1 ++ pre k2 i2
  | [], [], _, _, _ => rfl
  | k :: k1, i :: i1, _, _, h => by simp [pre, pre_app (k1 := k1) (i1 := i1) (by simpa using h)]
  | [], _ :: _, _, _, h => by simp at h
  | _ :: _, [], _, _, h => by simp at h
theorem post_app : ∀ {k1 : List Kid} {i1 : List It} {k2 : List Kid} {i2 : List It}, k1.length = i1.length → post (i1 ++ i2) (k1 ++ k2) = post i1 k1 ++ post i2 k2
  | [], [], _, _, _ => rfl
  | k :: k1, i :: i1, _, _, h => by simp [post, post_app (k1 := k1) (i1 := i1) (by simpa using h)]
  | [], _ :: _, _, _, h => by simp at h
  | _ :: _, [], _, _, h => by simp at h
theorem weave_mid {k1 k2 : List Kid} {k : Kid} {i1 i2 : List It} (h1 : k1.length = i1.length) (h2 : k2.length = i2.length) : weave (k1 ++ k :: k2) (i1 ++ i2) = pre k1 i1 ++ k.2 ++ post i2 k2 := by
  rw [weave_app h1, weave_cons h2, List.append_assoc]
theorem pre_take {ks : List Kid} {is : List It} {i : Nat} {k : Kid} {x : It} (hk : ks[i]? = some k) (hx : is[i]? = some x) : pre (ks.take (i + 1)) (is.take (i + 1)) = pre (ks.take i) (is.take i) ++ k.2 ++ [x] := by
  have h1 := (List.getElem?_eq_some_iff.1 hk).1
  have h2 := (List.getElem?_eq_some_iff.1 hx).1
  rw [List.take_add_one, List.take_add_one, hk, hx, pre_app (by simp; omega)]
  simp [pre]
theorem weave_last {ks : List Kid} {is : List It} {k : Kid} (h : ks.length = is.length + 1) (hk : ks[is.length]? = some k) : weave ks is = pre (ks.take is.length) is ++ k.2 := by
  have h1 := (List.getElem?_eq_some_iff.1 hk).1
  have : ks = ks.take is.length ++ [k] := by
    have h2 : ks.drop is.length = [k] := by
      rw [List.drop_eq_getElem_cons h1]
      have : ks[is.length]'h1 = k := by simpa [List.getElem?_eq_getElem h1] using hk
      rw [this, List.drop_of_length_le (by omega)]
    rw [← h2, List.take_append_drop]
  conv => lhs; rw [this, show is = is ++ [] by simp]
  rw [weave_app (by simp; omega)]; simp [weave]

/-- The children. -/
def kidsP (F : Nat → List It → HProp) (ks : List Kid) : HProp := seps (ks.map fun k => F k.1 k.2)
theorem kids_mid {F : Nat → List It → HProp} {k1 k2 : List Kid} {k : Kid} {S : List HProp} : Ent (kidsP F (k1 ++ k :: k2) :: S) (F k.1 k.2 :: kidsP F (k1 ++ k2) :: S) := fun h H => by
  unfold kidsP at *
  rw [List.map_append, List.map_cons] at H
  rw [List.map_append]
  have h1 := seps_open H
  rw [List.append_assoc, List.cons_append] at h1
  have h2 := seps_mid' h1
  rw [← List.append_assoc] at h2
  exact seps_cons_mono (fun _ g => seps_shut g) h2
theorem kids_mid' {F : Nat → List It → HProp} {k1 k2 : List Kid} {k : Kid} {S : List HProp} : Ent (F k.1 k.2 :: kidsP F (k1 ++ k2) :: S) (kidsP F (k1 ++ k :: k2) :: S) := fun h H => by
  unfold kidsP at *
  rw [List.map_append] at H
  rw [List.map_append, List.map_cons]
  refine seps_shut ?_
  rw [List.append_assoc, List.cons_append]
  refine seps_mid ?_
  have := seps_cons_mono (fun _ g => seps_open g) H
  rw [List.append_assoc] at this
  exact this

structure Nd where
  ia : Option Addr
  ic : Nat
  ba : Option Addr
  bc : Nat
def ndC (x : Nd) (n m : Nat) : List Value := [.slice x.ia n x.ic, .slice x.ba m x.bc]
/-- A node of which everything is told but what its children hold. -/
def ndP (p : Nat) (x : Nd) (its : List It) (ps : List Nat) : List HProp := [pts p 0 (ndC x its.length ps.length), sl x.ia its.length x.ic 2 (flat itC its), sl x.ba ps.length x.bc 1 (flat ptC ps)]
def Nd.ok (x : Nd) (n m : Nat) : Prop := wf x.ia n x.ic ∧ wf x.ba m x.bc
/-- A tree: its depth, how many items its node has at least, where it lies, its items. -/
def trP : Nat → Nat → Nat → List It → HProp
  | 0, m, p, l => ex fun x : Nd => pr (m ≤ l.length ∧ l.length ≤ 6 ∧ x.ok l.length 0) :: ndP p x l []
  | d + 1, m, p, l => ex fun x : Nd × List It × List Kid => pr (m ≤ x.2.1.length ∧ x.2.1.length ≤ 6 ∧ x.2.2.length = x.2.1.length + 1 ∧ l = weave x.2.2 x.2.1 ∧ x.1.ok x.2.1.length (x.2.1.length + 1)) ::
      (ndP p x.1 x.2.1 (x.2.2.map (·.1)) ++ [kidsP (trP d 3) x.2.2])

theorem sp_shelf_leaf {B : Base} {p : Nat} {x : Nd} {n m : Nat} : True → Fn PP B N.shelf_node_leaf [.pointer (some ⟨p, 0, none⟩)] [pts p 0 (ndC x n m)] (fun v L => ∃ q : Bool, v = .bool q ∧ (q = true ↔ m = 0) ∧ L = [pts p 0 (ndC x n m)]) := by
  intro _
  refine Fn_of N.shelf_node_leaf_f rfl rfl fun fr => ?_
  try dsimp only [List.append_eq, List.cons_append, List.nil_append]
  repeat' (first | refine T_seq ?_ | refine T_regionR Tt (by kernel_rfl) ?_ | refine W_go Tt rfl ?_ | refine W_nil ?_ | refine T_ret ?_ | with_reducible refine R_then ?_ | with_reducible refine R_norm ?_ | refine A_cmpT Tt ?_ | refine A_cmpF Tt ?_ | (refine A_cmp Tt ?_ ?_ <;> intro hc) | refine A_ldPts Tt ?_ | refine A_ldSl Tt ?_ | refine A_el Tt ?_ | refine A_el1 Tt ?_ | refine A_el2 Tt ?_ | fail)
  all_goals
    (change bodyQ PP _ [fr] _ _ _ _ _; refine ⟨rfl, _, _, _, (.tmp .nil), ⟨_, rfl, by simp; omega, rfl⟩, takeS⟩)
theorem sp_leaf_yes {B : Base} {p : Nat} {x : Nd} {n : Nat} : True → Fn PP B N.shelf_node_leaf [.pointer (some ⟨p, 0, none⟩)] [pts p 0 (ndC x n 0)] (fun v L => v = .bool true ∧ L = [pts p 0 (ndC x n 0)]) := fun _ =>
  (sp_shelf_leaf trivial).mono fun v L ⟨q, h1, h2, h3⟩ => ⟨by rw [h1, h2.2 rfl], h3⟩
theorem sp_leaf_no {B : Base} {p : Nat} {x : Nd} {n m : Nat} : 0 < m → Fn PP B N.shelf_node_leaf [.pointer (some ⟨p, 0, none⟩)] [pts p 0 (ndC x n m)] (fun v L => v = .bool false ∧ L = [pts p 0 (ndC x n m)]) := fun hm =>
  (sp_shelf_leaf trivial).mono fun v L ⟨q, h1, h2, h3⟩ => ⟨by cases q with | false => rw [h1] | true => exact absurd (h2.1 rfl) (by omega), h3⟩

/-! ### place -/
def placeL (l : List It) (k : ByteArray) : Nat := (l.takeWhile fun x => decide (blt x.k k)).length
theorem placeL_app {a b : List It} {k : ByteArray} (ha : AllLt a k) (hb : ∀ x, b[0]? = some x → ¬ blt x.k k) : placeL (a ++ b) k = a.length := by
  unfold placeL
  rw [List.takeWhile_append_of_pos (by intro x hx; simpa using ha x hx)]
  cases b with
  | nil => simp
  | cons x b => simp [hb x rfl]
theorem sp_shelf_place {B : Base} {p m : Nat} {x : Nd} {its : List It} {k : ByteArray} : (wf x.ia its.length x.ic ∧ its.length ≤ 1000 ∧ k.size < 4611686018427387904) →
    Fn PP B N.shelf_node_place [.pointer (some ⟨p, 0, none⟩), .string k] [pts p 0 (ndC x its.length m), sl x.ia its.length x.ic 2 (flat itC its)]
    (fun v L => (∃ (i : Nat) (q : Bool), v = .tuple #[.int .i64 i, .bool q] ∧ i ≤ its.length ∧ AllLt (its.take i) k ∧ (q = true → ∃ y, its[i]? = some y ∧ y.k = k) ∧ (q = false → ∀ y, its[i]? = some y → blt k y.k)) ∧ L = [pts p 0 (ndC x its.length m), sl x.ia its.length x.ic 2 (flat itC its)]) := by
  obtain ⟨ia, ic, ba, bc⟩ := x
  rintro ⟨hwf, hlen, hks⟩
  dsimp only at hwf ⊢
  refine Fn_of N.shelf_node_place_f rfl rfl fun fr => ?_
  try dsimp only [List.append_eq, List.cons_append, List.nil_append]
  repeat' (first | refine T_seq ?_ | refine T_regionR Tt (by kernel_rfl) ?_ | refine W_go Tt rfl ?_ | refine W_nil ?_ | refine T_cond_true rfl ?_ | refine T_cond_false rfl ?_ | refine T_skip ?_ | refine T_ret ?_ | refine T_exit ?_ | refine T_block ?_ | refine T_scope ?_ | refine T_label ?_ | with_reducible refine R_block ?_ | with_reducible refine R_then ?_ | with_reducible refine R_norm ?_ | with_reducible refine R_scope ?_ | with_reducible refine R_exitEq ?_ | refine R_exitNe ?_ | with_reducible refine R_thenX ?_ | with_reducible refine R_scopeX ?_ | with_reducible refine R_blockN ?_ | with_reducible refine R_scopeN ?_ | refine A_cmpT Tt ?_ | refine A_cmpF Tt ?_ | (refine A_cmp Tt ?_ ?_ <;> intro hc) | refine A_ldPts Tt ?_ | refine A_ldSl Tt ?_ | refine S_ix Tt ?_ | refine S_ixA Tt ?_ | refine A_el Tt ?_ | refine A_el1 Tt ?_ | refine A_el2 Tt ?_ | refine A_store Tt ?_ | refine A_stEl Tt ?_ | (refine A_alloc Tt ?_; intro b) | fail)
  refine T_loopE (X := Nat) (fun i => [(0, .pointer (some ⟨p, 0, none⟩)), (1, .string k), (6, .int .i64 its.length), (7, .bool false), (18, .slice ia its.length ic), (19, .int .i64 its.length), (20, .int .i64 i)])
    (fun i => [pts p 0 (ndC ⟨ia, ic, ba, bc⟩ its.length m), sl ia its.length ic 2 (flat itC its), fr]) (fun i => its.length + 1 - i) (fun i => i ≤ its.length ∧ AllLt (its.take i) k) 0 ⟨by omega, by simp [AllLt]⟩ (by exact ⟨rfl, rfl, rfl, rfl, rfl, rfl, rfl, trivial⟩) takeS ?_
  rintro i d ⟨hi, hp⟩
  rcases hwf with ⟨rfl, h0, rfl⟩ | ⟨b, off, rfl, hle⟩
  · repeat' (first | refine T_seq ?_ | refine T_regionR Tt (by kernel_rfl) ?_ | refine W_go Tt rfl ?_ | refine W_nil ?_ | refine T_cond_true rfl ?_ | refine T_cond_false rfl ?_ | refine T_skip ?_ | refine T_ret ?_ | refine T_exit ?_ | refine T_block ?_ | refine T_scope ?_ | refine T_label ?_ | with_reducible refine R_block ?_ | with_reducible refine R_then ?_ | with_reducible refine R_norm ?_ | with_reducible refine R_scope ?_ | with_reducible refine R_exitEq ?_ | refine R_exitNe ?_ | with_reducible refine R_thenX ?_ | with_reducible refine R_scopeX ?_ | with_reducible refine R_blockN ?_ | with_reducible refine R_scopeN ?_ | refine A_cmpT Tt ?_ | refine A_cmpF Tt ?_ | (refine A_cmp Tt ?_ ?_ <;> intro hc) | refine A_ldPts Tt ?_ | refine A_ldSl Tt ?_ | refine S_ix Tt ?_ | refine S_ixA Tt ?_ | refine A_el Tt ?_ | refine A_el1 Tt ?_ | refine A_el2 Tt ?_ | refine A_store Tt ?_ | refine A_stEl Tt ?_ | (refine A_alloc Tt ?_; intro b) | fail)
    · exact absurd hc (by omega)
    · (change bodyQ PP _ [fr] _ _ _ _ _; refine ⟨rfl, _, _, _, (.tmp (.tmp .nil)), ⟨⟨its.length, false, rfl, by omega, by rw [List.length_eq_zero_iff.1 h0]; simp [AllLt], fun h => (by cases h), fun _ y hy => by rw [List.length_eq_zero_iff.1 h0] at hy; simp at hy⟩, rfl⟩, takeS⟩)
  · by_cases hlt : i < its.length
    · obtain ⟨x, hx⟩ : ∃ x, its[i]? = some x := ⟨_, List.getElem?_eq_getElem hlt⟩
      repeat' (first | refine T_seq ?_ | refine T_regionR Tt (by kernel_rfl) ?_ | refine W_go Tt rfl ?_ | refine W_nil ?_ | refine T_cond_true rfl ?_ | refine T_cond_false rfl ?_ | refine T_skip ?_ | refine T_ret ?_ | refine T_exit ?_ | refine T_block ?_ | refine T_scope ?_ | refine T_label ?_ | with_reducible refine R_block ?_ | with_reducible refine R_then ?_ | with_reducible refine R_norm ?_ | with_reducible refine R_scope ?_ | with_reducible refine R_exitEq ?_ | refine R_exitNe ?_ | with_reducible refine R_thenX ?_ | with_reducible refine R_scopeX ?_ | with_reducible refine R_blockN ?_ | with_reducible refine R_scopeN ?_ | refine A_cmpT Tt ?_ | refine A_cmpF Tt ?_ | (refine A_cmp Tt ?_ ?_ <;> intro hc) | refine A_ldPts Tt ?_ | refine A_ldSl Tt ?_ | refine S_ix Tt ?_ | refine S_ixA Tt ?_ | refine A_el Tt ?_ | refine A_el1 Tt ?_ | refine A_el2 Tt ?_ | refine A_store Tt ?_ | refine A_stEl Tt ?_ | (refine A_alloc Tt ?_; intro b) | (refine A_call Tt N.key_Less_is (sp_key_Less) (hks) ?_; rintro v L ⟨q, rfl, hb, rfl⟩; cases q <;> dsimp only [List.cons_append, List.nil_append, cond_true, cond_false]) | fail)
      · (change bodyQ PP _ [fr] _ _ _ _ _; refine ⟨rfl, _, _, _, (.tmp (.tmp .nil)), ⟨⟨i, true, rfl, by omega, hp, fun _ => ⟨x, hx, hc⟩, fun h => (by cases h)⟩, rfl⟩, takeS⟩)
      · refine ⟨rfl, i + 1, ⟨by omega, ?_⟩, by omega, ⟨rfl, rfl, rfl, rfl, rfl, rfl, inc_ok (by omega), trivial⟩, _, takeS⟩
        rw [List.take_add_one, hx]
        refine AllLt.app.2 ⟨hp, fun y hy => ?_⟩
        simp at hy; subst hy
        rcases blt_total y.k k with h | h | h
        · exact h
        · exact absurd h hc
        · exact absurd (hb.2 h) (by simp)
      · (change bodyQ PP _ [fr] _ _ _ _ _; refine ⟨rfl, _, _, _, (.tmp (.tmp .nil)), ⟨⟨i, false, rfl, by omega, hp, fun h => (by cases h), fun _ y hy => by rw [hx] at hy; cases hy; exact hb.1 rfl⟩, rfl⟩, takeS⟩)
      · exact absurd hc (by omega)
    · repeat' (first | refine T_seq ?_ | refine T_regionR Tt (by kernel_rfl) ?_ | refine W_go Tt rfl ?_ | refine W_nil ?_ | refine T_cond_true rfl ?_ | refine T_cond_false rfl ?_ | refine T_skip ?_ | refine T_ret ?_ | refine T_exit ?_ | refine T_block ?_ | refine T_scope ?_ | refine T_label ?_ | with_reducible refine R_block ?_ | with_reducible refine R_then ?_ | with_reducible refine R_norm ?_ | with_reducible refine R_scope ?_ | with_reducible refine R_exitEq ?_ | refine R_exitNe ?_ | with_reducible refine R_thenX ?_ | with_reducible refine R_scopeX ?_ | with_reducible refine R_blockN ?_ | with_reducible refine R_scopeN ?_ | refine A_cmpT Tt ?_ | refine A_cmpF Tt ?_ | (refine A_cmp Tt ?_ ?_ <;> intro hc) | refine A_ldPts Tt ?_ | refine A_ldSl Tt ?_ | refine S_ix Tt ?_ | refine S_ixA Tt ?_ | refine A_el Tt ?_ | refine A_el1 Tt ?_ | refine A_el2 Tt ?_ | refine A_store Tt ?_ | refine A_stEl Tt ?_ | (refine A_alloc Tt ?_; intro b) | fail)
      · exact absurd hc (by omega)
      · (change bodyQ PP _ [fr] _ _ _ _ _; refine ⟨rfl, _, _, _, (.tmp (.tmp .nil)), ⟨⟨its.length, false, rfl, by omega, by rw [show i = its.length by omega] at hp; exact hp, fun h => (by cases h), fun _ y hy => by simp at hy⟩, rfl⟩, takeS⟩)
end Go.Rz

