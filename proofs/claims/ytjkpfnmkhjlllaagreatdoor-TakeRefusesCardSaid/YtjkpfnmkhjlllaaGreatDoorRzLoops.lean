/- Loops whose state is told by the temporaries that live on. -/
import Derived.Test.YtjkpfnmkhjlllaaGreatDoorRzRangeF
set_option linter.unusedVariables false
set_option linter.unusedSimpArgs false
namespace Go.Rz
set_option linter.unusedVariables false

theorem Take.refl : ∀ S : List HProp, Take S S []
  | [] => .nil
  | A :: S => .cons .here (Take.refl S)

def setL (d : Env) : List (Nat × Value) → Env
  | [] => d
  | (t, v) :: l => upd (setL d l) t v
def agr (e : Env) : List (Nat × Value) → Prop
  | [] => True
  | (t, v) :: l => e t = v ∧ agr e l

theorem upd_self {e : Env} {t : Nat} {v : Value} (h : e t = v) : upd e t v = e := by
  funext u
  unfold upd
  cases hb : Nat.beq u t with
  | false => rfl
  | true => rw [Nat.eq_of_beq_eq_true hb]; exact h.symm
theorem setL_of_agr {e : Env} : ∀ {l : List (Nat × Value)}, agr e l → setL e l = e
  | [], _ => rfl
  | (t, v) :: l, h => by unfold setL; rw [setL_of_agr h.2, upd_self h.1]

/-- A truth as a bool. -/
noncomputable def tt (p : Prop) : Bool := @decide p (Classical.propDecidable p)
theorem tt_iff {p : Prop} : tt p = true ↔ p := by unfold tt; simp
theorem tt_of {p : Prop} {q : Bool} (h : q = true ↔ p) : q = tt p := by
  have h2 := h.trans (tt_iff (p := p)).symm
  cases q <;> cases h' : tt p <;> simp_all
theorem bool_tt {p : Prop} {v : Value} {L M : List HProp} (h : ∃ q : Bool, v = .bool q ∧ (q = true ↔ p) ∧ L = M) : v = .bool (tt p) ∧ L = M := by
  obtain ⟨q, rfl, hq, rfl⟩ := h
  exact ⟨by rw [tt_of hq], rfl⟩
theorem CallV_clo {P : Program} {B : Base} {g : FuncId} (caps : List Value) {args : List Value} {A : List HProp} {Ps Ps' : Value → List HProp → Prop} (hf : IsFn P g) (h : Fn P B g (args ++ caps) A Ps) (hp : ∀ v L, Ps v L → Ps' v L) : CallV P B (.func (.func g) #[] caps.toArray) args A Ps' :=
  (CallV_fn (first := #[]) (captured := caps.toArray) hf (by simpa using h)).mono hp

section
variable {P : Program} {B : Base} {r : Option Nat} {n N : Nat} {e : Env} {ds : List Deferred} {S : List HProp} {Q : Post}
theorem R_block {id : Nat} (h : Q .ret e ds S) : inBlockP id Q .ret e ds S := h
theorem R_then {K : Env → List Deferred → List HProp → Prop} (h : Q .ret e ds S) : thenP K Q .ret e ds S := h
theorem R_norm {K : Env → List Deferred → List HProp → Prop} (h : K e ds S) : thenP K Q .normal e ds S := h
theorem inc_ok {i : Nat} (h : i < 4611686018427387904) : Value.int .i64 (wr .i64 ((i : Int) + 1)) = .int .i64 ((i + 1 : Nat) : Int) := by
  show Value.int .i64 (w64 _) = _
  rw [w64_id (by omega) (by omega)]; rfl
theorem R_scope (h : Q .ret e ds S) : noGotoP Q .ret e ds S := h
theorem T_loopE {X : Type} {c : Code} (L : X → List (Nat × Value)) (SS : X → List HProp) (μ : X → Nat) (inv : X → Prop) (x0 : X) (hi : inv x0) (ha : agr e (L x0)) {R : List HProp} (ht : Take S (SS x0) R)
    (round : ∀ x d, inv x → Tri P B r n N c (setL d (L x)) ds (SS x) (thenP (fun e' ds' S' => ds' = ds ∧ ∃ x', inv x' ∧ μ x' < μ x ∧ agr e' (L x') ∧ ∃ R, Take S' (SS x') R) Q)) : Tri P B r n N (.loop c) e ds S Q := by
  refine T_weaken (T := SS x0) (fun h H => seps_append_left (ht.out H)) ?_
  refine T_loop (fun e' ds' S' m => ds' = ds ∧ ∃ x, inv x ∧ μ x = m ∧ agr e' (L x) ∧ ∃ R, Take S' (SS x) R) (μ x0) ⟨rfl, x0, hi, rfl, ha, [], Take.refl (SS x0)⟩ ?_
  rintro e' ds' S' m ⟨rfl, x, hx, rfl, hag, R', hR'⟩
  refine T_weaken (T := SS x) (fun h H => seps_append_left (hR'.out H)) ?_
  have := round x e' hx
  rw [setL_of_agr hag] at this
  refine T_mono this ?_
  intro ex e2 ds2 S2 h
  cases ex with
  | normal =>
    obtain ⟨h1, x', h2, h3, h4, h5⟩ := h
    exact ⟨μ x', h3, h1, x', h2, rfl, h4, h5⟩
  | _ => exact h
end
end Go.Rz
