/- Assertions with a part that is not told; contracts turned to other words; the ends of functions. -/
import Derived.Test.YtjkpfnmkhjlllaaGreatDoorRzLoops
import Derived.Test.YtjkpfnmkhjlllaaGreatDoorRzOrd
import Derived.Test.YtjkpfnmkhjlllaaGreatDoorRzFork
set_option linter.unusedVariables false
set_option linter.unusedSimpArgs false
namespace Go.Rz
set_option linter.unusedVariables false

theorem Ent.refl (S : List HProp) : Ent S S := fun _ H => H
theorem Ent.trans {S T U : List HProp} (a : Ent S T) (b : Ent T U) : Ent S U := fun h H => b h (a h H)
theorem Ent.cons {S T : List HProp} (A : HProp) (a : Ent S T) : Ent (A :: S) (A :: T) := fun h H => seps_cons_mono a H
theorem Ent.head {A C : HProp} (h : ∀ g, A g → C g) (S : List HProp) : Ent (A :: S) (C :: S) := fun _ H => seps_head_mono h H
theorem Ent.pick {S R : List HProp} {A : HProp} (p : Pick S A R) : Ent S (A :: R) := fun _ H => p.out H
theorem Ent.back {S R : List HProp} {A : HProp} (p : Pick S A R) : Ent (A :: R) S := fun _ H => p.back H
theorem Ent.take {S L R : List HProp} (t : Take S L R) : Ent S (L ++ R) := fun _ H => t.out H
theorem Ent.takeL {S L R : List HProp} (t : Take S L R) : Ent S L := fun _ H => seps_append_left (t.out H)
theorem Ent.open {L S : List HProp} : Ent (seps L :: S) (L ++ S) := fun _ H => seps_open H
theorem Ent.shut {L S : List HProp} : Ent (L ++ S) (seps L :: S) := fun _ H => seps_shut H
theorem Ent.drop {S : List HProp} {A : HProp} : Ent (A :: S) S := fun _ H => seps_tail H
theorem Ent.append {L M S T : List HProp} (a : Ent L M) (b : Ent S T) : Ent (L ++ S) (M ++ T) := fun h H =>
  seps_append_mono b (seps_open (S := S) (L := M) (Ent.head (fun _ => a _) S h (seps_shut H)))
theorem Ent.swap {A C : HProp} {S : List HProp} : Ent (A :: C :: S) (C :: A :: S) := fun _ H => seps_swap H
theorem Ent.rot {A : HProp} {L R : List HProp} : Ent (A :: (L ++ R)) (L ++ A :: R) := fun _ H => seps_mid H
theorem Ent.rot' {A : HProp} {L R : List HProp} : Ent (L ++ A :: R) (A :: (L ++ R)) := fun _ H => seps_mid' H

theorem seps_nil {h : Heap} : seps [] h := trivial
/-- There is one. -/
def ex {α : Sort _} (A : α → List HProp) : HProp := fun h => ∃ x, seps (A x) h
theorem Ent.ex {α : Sort _} {A : α → List HProp} {S : List HProp} (x : α) : Ent (A x ++ S) (Go.Rz.ex A :: S) := fun h H =>
  Ent.head (fun _ g => ⟨x, g⟩) S h (seps_shut H)
theorem ex_open {α : Sort _} {A : α → List HProp} {S : List HProp} {h : Heap} (H : seps (ex A :: S) h) : ∃ x, seps (A x ++ S) h := by
  obtain ⟨h1, h2, ⟨x, a⟩, s, d, s1, s2⟩ := H
  exact ⟨x, seps_open ⟨h1, h2, a, s, d, s1, s2⟩⟩
theorem pr_open {p : Prop} {S : List HProp} {h : Heap} (H : seps (pr p :: S) h) : p ∧ seps S h := by
  obtain ⟨h1, h2, a, s, d, s1, s2⟩ := H
  exact ⟨a, seps_mono s2 s⟩
theorem Ent.pr {p : Prop} {S : List HProp} (h : p) : Ent S (Go.Rz.pr p :: S) := fun g H => ⟨Heap.emp, g, h, H, fun _ _ => .inl rfl, fun _ _ _ e => (by cases e), sub_refl g⟩
theorem Ent.sat {B : Base} {w : World} {S T : List HProp} (a : Ent S T) (hs : Sat B w S) : Sat B w T := hs.mono a
theorem Sat.ex {α : Sort _} {B : Base} {w : World} {A : α → List HProp} {S : List HProp} (hs : Sat B w (Go.Rz.ex A :: S)) : ∃ x, Sat B w (A x ++ S) := by
  obtain ⟨hb, hz, h, hw, H⟩ := hs
  obtain ⟨x, H⟩ := ex_open H
  exact ⟨x, hb, hz, h, hw, H⟩
theorem Sat.pr {B : Base} {w : World} {p : Prop} {S : List HProp} (hs : Sat B w (Go.Rz.pr p :: S)) : p ∧ Sat B w S := by
  obtain ⟨hb, hz, h, hw, H⟩ := hs
  obtain ⟨x, H⟩ := pr_open H
  exact ⟨x, hb, hz, h, hw, H⟩

section
variable {P : Program} {B : Base} {r : Option Nat} {n N : Nat} {e : Env} {ds : List Deferred} {S : List HProp} {Q : Post}
theorem T_ent {c : Code} {T : List HProp} (a : Ent S T) (h : Tri P B r n N c e ds T Q) : Tri P B r n N c e ds S Q := T_weaken a h
theorem T_ex {c : Code} {α : Sort _} {A : α → List HProp} {R : List HProp} (p : Pick S (ex A) R) (h : ∀ x, Tri P B r n N c e ds (A x ++ R) Q) : Tri P B r n N c e ds S Q := fun a w hr hd hs => by
  obtain ⟨x, hx⟩ := (hs.pick p).ex
  exact h x a w hr hd hx
theorem T_prp {c : Code} {φ : Prop} {R : List HProp} (p : Pick S (pr φ) R) (h : φ → Tri P B r n N c e ds R Q) : Tri P B r n N c e ds S Q := fun a w hr hd hs => by
  obtain ⟨x, hx⟩ := (hs.pick p).pr
  exact h x a w hr hd hx
end

section
variable {P : Program} {B : Base} {f : FuncId} {args : List Value} {A A' L : List HProp} {Ps Ps' : Value → List HProp → Prop}
/-- Other words ahead, other words behind. -/
theorem Fn.conseq (h : Fn P B f args A' Ps') (ha : Ent A A') (hp : ∀ v L, Ps' v L → ∃ M, Ps v M ∧ Ent L M) : Fn P B f args A Ps := fun fr w hs => by
  refine (h fr w (hs.mono fun h H => Ent.append ha (Ent.refl fr) h H)).mono ?_
  rintro ed w' ⟨v, L, rfl, hps, hs'⟩
  obtain ⟨M, hm, he⟩ := hp v L hps
  exact ⟨v, M, rfl, hm, hs'.mono fun h H => Ent.append he (Ent.refl fr) h H⟩
theorem Fn.pre (h : Fn P B f args A' Ps) (ha : Ent A A') : Fn P B f args A Ps := h.conseq ha fun v L x => ⟨L, x, Ent.refl L⟩
theorem Fn.ex {α : Sort _} {E : α → List HProp} (h : ∀ x, Fn P B f args (E x ++ L) Ps) : Fn P B f args (Go.Rz.ex E :: L) Ps := fun fr w hs => by
  obtain ⟨x, hx⟩ := Sat.ex (S := L ++ fr) hs
  exact h x fr w (by simpa using hx)
theorem Fn.prop {φ : Prop} (h : φ → Fn P B f args L Ps) : Fn P B f args (Go.Rz.pr φ :: L) Ps := fun fr w hs => by
  obtain ⟨x, hx⟩ := Sat.pr (S := L ++ fr) hs
  exact h x fr w hx
theorem Fn.pure {φ : Prop} (hφ : ∀ (w : World) (R : List HProp), Sat B w (A ++ R) → φ) (h : φ → Fn P B f args A Ps) : Fn P B f args A Ps := fun fr w hs => h (hφ w fr hs) fr w hs
/-- With more owned beside. -/
theorem Fn.frame (h : Fn P B f args A Ps) (G : List HProp) : Fn P B f args (A ++ G) (fun v M => ∃ L, Ps v L ∧ M = L ++ G) := fun fr w hs => by
  refine (h (G ++ fr) w (by simpa using hs)).mono ?_
  rintro ed w' ⟨v, L, rfl, hps, hs'⟩
  exact ⟨v, L ++ G, rfl, ⟨L, hps, rfl⟩, by simpa using hs'⟩
end

/-! ### The ends of functions -/
theorem ResL.mono {S T : List HProp} {P : Program} {e : Env} {l : List ResultVar} {vs : List Value} (a : Ent S T) (h : ResL T P e l vs) : ResL S P e l vs := by
  induction h with
  | nil => exact .nil
  | tmp _ ih => exact .tmp ih
  | cell hv _ ih => exact .cell (fun B w hs => hv B w (a.sat hs)) ih

section
variable {P : Program} {B : Base} {r : Option Nat} {n N : Nat} {e : Env} {ds : List Deferred} {S : List HProp} {Q : Post}
theorem R_exitEq {id : Nat} (h : Q .normal e ds S) : inBlockP id Q (.exit id) e ds S := by simp [inBlockP, h]
theorem R_exitNe {id id' : Nat} (h : Q (.exit id') e ds S) (hn : Nat.beq id' id = false := by rfl) : inBlockP id Q (.exit id') e ds S := by
  have : id' ≠ id := fun e => by rw [e] at hn; simp at hn
  simp [inBlockP, this, h]
theorem R_thenX {id : Nat} {K : Env → List Deferred → List HProp → Prop} (h : Q (.exit id) e ds S) : thenP K Q (.exit id) e ds S := h
theorem R_scopeX {id : Nat} (h : Q (.exit id) e ds S) : noGotoP Q (.exit id) e ds S := h
theorem R_scopeN (h : Q .normal e ds S) : noGotoP Q .normal e ds S := h
theorem R_blockN {id : Nat} (h : Q .normal e ds S) : inBlockP id Q .normal e ds S := h
end

theorem takeS {S L R : List HProp} (ht : Take S L R := by (try dsimp only [List.cons_append, List.nil_append]); (repeat (first | exact Take.nil | with_reducible apply tk0 | with_reducible apply tk1 | with_reducible apply tk2 | with_reducible apply tk3 | with_reducible apply tk4 | with_reducible apply tk5 | with_reducible apply tk6 | with_reducible apply tk7 | with_reducible apply tk8 | with_reducible apply tk9 | with_reducible apply tk10 | with_reducible apply tk11 | with_reducible apply tk12 | with_reducible apply tk13 | with_reducible apply tk14 | with_reducible apply tk15 | with_reducible apply tk16 | with_reducible apply tk17 | with_reducible apply tk18 | with_reducible apply tk19 | apply tk0 | apply tk1 | apply tk2 | apply tk3 | apply tk4 | apply tk5 | apply tk6 | apply tk7 | apply tk8 | apply tk9 | apply tk10 | apply tk11 | apply tk12 | apply tk13 | apply tk14 | apply tk15)); (first | done | fail)) : Take S L R := ht
end Go.Rz
