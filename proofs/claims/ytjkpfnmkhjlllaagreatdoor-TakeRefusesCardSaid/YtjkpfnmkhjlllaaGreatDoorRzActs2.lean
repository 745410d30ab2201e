/- More rules: numbers, conversions, parts of slices. -/
import Derived.Test.YtjkpfnmkhjlllaaGreatDoorRzEx
set_option linter.unusedVariables false
set_option linter.unusedSimpArgs false
namespace Go.Rz
open Go.RowKit (Below)
set_option linter.unusedVariables false

/-- Which types are numbers, and of which kind. -/
structure TabK (P : Program) where
  l : List (Nat × IntKind)
  ok : ∀ x ∈ l, P.underlying x.1 = some (.int x.2)
def lookK : List (Nat × IntKind) → Nat → Option IntKind
  | [], _ => none
  | (t, i) :: l, u => bif Nat.beq t u then some i else lookK l u
theorem lookK_mem {l : List (Nat × IntKind)} {t : Nat} {i : IntKind} (h : lookK l t = some i) : (t, i) ∈ l := by
  induction l with
  | nil => cases h
  | cons x l ih =>
    obtain ⟨u, j⟩ := x
    unfold lookK at h
    cases hb : Nat.beq u t with
    | false => rw [hb] at h; exact List.mem_cons_of_mem _ (ih h)
    | true =>
      rw [hb] at h
      simp only [cond_true, Option.some.injEq] at h
      rw [Nat.eq_of_beq_eq_true hb, h]; exact List.mem_cons_self ..
theorem TabK.at {P : Program} (K : TabK P) {t : Nat} {i : IntKind} (h : lookK K.l t = some i) : P.underlying t = some (.int i) := K.ok _ (lookK_mem h)

section
variable {P : Program} {T : Tab P} {B : Base} {r : Option Nat} {n : Nat} {s : St} {rest todo : List St} {pd : List (Nat × List HProp)} {e : Env} {S : List HProp} {Q : Env → List HProp → Prop}

theorem eqGuard_int {P : Program} {op : BinOp} {t : TypeId} {x y : Operand} {k k' : IntKind} {a b : Int} (w : World) : (eqGuard op t x y (.int k a) (.int k' b)).run P w = .ok () w :=
  eqGuard_run (fun _ _ => .inl (by simp)) (by simp) w

theorem A_bin (T : Tab P) {op : BinOp} {t t2 : TypeId} {x y : Operand} {kd kd2 : IntKind} {a b c : Int} (hr : ∀ w : World, (Go.binOp op t (.int kd a) (.int kd2 b)).run P w = .ok (.int kd c) w)
    (k : WkR T B r n rest (pdAdd s [] pd) (updO e s.o.dst (.int kd c)) S Q)
    (hop : s.o.op = .binOp op t x y t2) (hg : wantedE e s.g = true) (hcl : Nat.beq s.cls 2 = false) (hx : ev e x = .int kd a) (hy : ev e y = .int kd2 b) : Wk P B r n (s :: rest) pd e S Q := by
  refine S_val T _ (fun w => ?_) (by simp [hop]) hg hcl k
  simp only [execOp, hop, hx, hy, Sem.run_bind, eqGuard_int, hr w, Result.andThen_ok, Sem.run_pure]
theorem A_shl (T : Tab P) {t t2 : TypeId} {x y : Operand} {kd kd2 : IntKind} {a b : Int}
    (k : WkR T B r n rest (pdAdd s [] pd) (updO e s.o.dst (.int kd (wr kd (a * 2 ^ min b.toNat kd.bits)))) S Q)
    (hop : s.o.op = .binOp .shl t x y t2 := by rfl) (hg : wantedE e s.g = true := by rfl) (hcl : Nat.beq s.cls 2 = false := by rfl) (hx : ev e x = .int kd a := by rfl) (hy : ev e y = .int kd2 b := by rfl) (hb : 0 ≤ b := by first | decide | omega) : Wk P B r n (s :: rest) pd e S Q := by
  refine A_bin T (fun w => ?_) k hop hg hcl hx hy
  simp only [Go.binOp, Op.shift]
  rw [if_neg (by omega)]
  simp [wr_eq]
theorem A_shr (T : Tab P) {t t2 : TypeId} {x y : Operand} {kd kd2 : IntKind} {a b : Int}
    (k : WkR T B r n rest (pdAdd s [] pd) (updO e s.o.dst (.int kd (a.fdiv (2 ^ min b.toNat kd.bits)))) S Q)
    (hop : s.o.op = .binOp .shr t x y t2 := by rfl) (hg : wantedE e s.g = true := by rfl) (hcl : Nat.beq s.cls 2 = false := by rfl) (hx : ev e x = .int kd a := by rfl) (hy : ev e y = .int kd2 b := by rfl) (hb : 0 ≤ b := by first | decide | omega) : Wk P B r n (s :: rest) pd e S Q := by
  refine A_bin T (fun w => ?_) k hop hg hcl hx hy
  simp only [Go.binOp, Op.shift]
  rw [if_neg (by omega)]
  simp
def orI (kd : IntKind) (a b : Int) : Int := wr kd ((BitVec.ofInt kd.bits a ||| BitVec.ofInt kd.bits b).toNat : Int)
def andI (kd : IntKind) (a b : Int) : Int := wr kd ((BitVec.ofInt kd.bits a &&& BitVec.ofInt kd.bits b).toNat : Int)
def xorI (kd : IntKind) (a b : Int) : Int := wr kd ((BitVec.ofInt kd.bits a ^^^ BitVec.ofInt kd.bits b).toNat : Int)
theorem A_or (T : Tab P) {t t2 : TypeId} {x y : Operand} {kd : IntKind} {a b : Int}
    (k : WkR T B r n rest (pdAdd s [] pd) (updO e s.o.dst (.int kd (orI kd a b))) S Q)
    (hop : s.o.op = .binOp .or t x y t2 := by rfl) (hg : wantedE e s.g = true := by rfl) (hcl : Nat.beq s.cls 2 = false := by rfl) (hx : ev e x = .int kd a := by rfl) (hy : ev e y = .int kd b := by rfl) : Wk P B r n (s :: rest) pd e S Q := by
  refine A_bin T (fun w => ?_) k hop hg hcl hx hy
  simp [Go.binOp, Op.intBits, orI, wr_eq]
theorem A_and (T : Tab P) {t t2 : TypeId} {x y : Operand} {kd : IntKind} {a b : Int}
    (k : WkR T B r n rest (pdAdd s [] pd) (updO e s.o.dst (.int kd (andI kd a b))) S Q)
    (hop : s.o.op = .binOp .and t x y t2 := by rfl) (hg : wantedE e s.g = true := by rfl) (hcl : Nat.beq s.cls 2 = false := by rfl) (hx : ev e x = .int kd a := by rfl) (hy : ev e y = .int kd b := by rfl) : Wk P B r n (s :: rest) pd e S Q := by
  refine A_bin T (fun w => ?_) k hop hg hcl hx hy
  simp [Go.binOp, Op.intBits, andI, wr_eq]
theorem A_xor (T : Tab P) {t t2 : TypeId} {x y : Operand} {kd : IntKind} {a b : Int}
    (k : WkR T B r n rest (pdAdd s [] pd) (updO e s.o.dst (.int kd (xorI kd a b))) S Q)
    (hop : s.o.op = .binOp .xor t x y t2 := by rfl) (hg : wantedE e s.g = true := by rfl) (hcl : Nat.beq s.cls 2 = false := by rfl) (hx : ev e x = .int kd a := by rfl) (hy : ev e y = .int kd b := by rfl) : Wk P B r n (s :: rest) pd e S Q := by
  refine A_bin T (fun w => ?_) k hop hg hcl hx hy
  simp [Go.binOp, Op.intBits, xorI, wr_eq]
theorem A_quo (T : Tab P) {t t2 : TypeId} {x y : Operand} {kd : IntKind} {a b : Int}
    (k : WkR T B r n rest (pdAdd s [] pd) (updO e s.o.dst (.int kd (wr kd (a.tdiv b)))) S Q)
    (hop : s.o.op = .binOp .quo t x y t2 := by rfl) (hg : wantedE e s.g = true := by rfl) (hcl : Nat.beq s.cls 2 = false := by rfl) (hx : ev e x = .int kd a := by rfl) (hy : ev e y = .int kd b := by rfl) (hb : b ≠ 0 := by first | decide | omega) : Wk P B r n (s :: rest) pd e S Q := by
  refine A_bin T (fun w => ?_) k hop hg hcl hx hy
  simp only [Go.binOp, Op.intDiv]
  simp [hb, wr_eq]
theorem A_rem (T : Tab P) {t t2 : TypeId} {x y : Operand} {kd : IntKind} {a b : Int}
    (k : WkR T B r n rest (pdAdd s [] pd) (updO e s.o.dst (.int kd (a.tmod b))) S Q)
    (hop : s.o.op = .binOp .rem t x y t2 := by rfl) (hg : wantedE e s.g = true := by rfl) (hcl : Nat.beq s.cls 2 = false := by rfl) (hx : ev e x = .int kd a := by rfl) (hy : ev e y = .int kd b := by rfl) (hb : b ≠ 0 := by first | decide | omega) : Wk P B r n (s :: rest) pd e S Q := by
  refine A_bin T (fun w => ?_) k hop hg hcl hx hy
  simp only [Go.binOp, Op.intDiv]
  simp [hb]

theorem A_conv (T : Tab P) (K : TabK P) {src dst : TypeId} {x : Operand} {k1 kd kx : IntKind} {a : Int}
    (k : WkR T B r n rest (pdAdd s [] pd) (updO e s.o.dst (.int kd (wr kd a))) S Q)
    (hop : s.o.op = .convert src dst x := by rfl) (hg : wantedE e s.g = true := by rfl) (hcl : Nat.beq s.cls 2 = false := by rfl) (hs : lookK K.l src = some k1 := by rfl) (hd : lookK K.l dst = some kd := by rfl) (hx : ev e x = .int kx a := by rfl) : Wk P B r n (s :: rest) pd e S Q := by
  refine S_val T _ (fun w => ?_) (by simp [hop]) hg hcl k
  simp only [execOp, hop, hx, Go.convert, Sem.run_bind, run_underlying_ok (K.at hs), run_underlying_ok (K.at hd), Result.andThen_ok, Conv.intToInt, Sem.run_pure, wr_eq]

/-! ### Comparisons that are decided -/
def cmpB : BinOp → Value → Value → Option Bool
  | .eql, .int _ a, .int _ b => some (decide (a = b))
  | .neq, .int _ a, .int _ b => some (decide (a ≠ b))
  | .lss, .int _ a, .int _ b => some (decide (a < b))
  | .leq, .int _ a, .int _ b => some (decide (a ≤ b))
  | .gtr, .int _ a, .int _ b => some (decide (b < a))
  | .geq, .int _ a, .int _ b => some (decide (b ≤ a))
  | _, _, _ => none
theorem cmpB_Q {op : BinOp} {x y : Value} {b : Bool} (h : cmpB op x y = some b) : ∃ c, cmpQ op x y = some c ∧ (b = true ↔ c) := by
  unfold cmpB at h
  split at h <;> first | (cases h; done) | skip
  all_goals
    injection h with h; subst h
    exact ⟨_, rfl, decide_eq_true_iff⟩
theorem A_cmpT (T : Tab P) {op : BinOp} {t t2 : TypeId} {x y : Operand}
    (k : WkR T B r n rest pd (updO e s.o.dst (.bool true)) S Q)
    (hop : s.o.op = .binOp op t x y t2 := by rfl) (hg : wantedE e s.g = true := by rfl) (hcl : (s.keep || Nat.beq s.cls 2) = false := by rfl)
    (hc : cmpB op (ev e x) (ev e y) = some true := by rfl) (hk : sameKind (ev e x) (ev e y) = true := by rfl) : Wk P B r n (s :: rest) pd e S Q := by
  obtain ⟨c, h1, h2⟩ := cmpB_Q hc
  exact S_cmp T hop hg hcl h1 hk (fun _ => k) (fun h => absurd (h2.1 rfl) h)
theorem A_cmpF (T : Tab P) {op : BinOp} {t t2 : TypeId} {x y : Operand}
    (k : WkR T B r n rest pd (updO e s.o.dst (.bool false)) S Q)
    (hop : s.o.op = .binOp op t x y t2 := by rfl) (hg : wantedE e s.g = true := by rfl) (hcl : (s.keep || Nat.beq s.cls 2) = false := by rfl)
    (hc : cmpB op (ev e x) (ev e y) = some false := by rfl) (hk : sameKind (ev e x) (ev e y) = true := by rfl) : Wk P B r n (s :: rest) pd e S Q := by
  obtain ⟨c, h1, h2⟩ := cmpB_Q hc
  exact S_cmp T hop hg hcl h1 hk (fun h => absurd (h2.2 h) (by simp)) (fun _ => k)
theorem A_cmpY (T : Tab P) {op : BinOp} {t t2 : TypeId} {x y : Operand} {c : Prop}
    (k : WkR T B r n rest pd (updO e s.o.dst (.bool true)) S Q)
    (hop : s.o.op = .binOp op t x y t2 := by rfl) (hg : wantedE e s.g = true := by rfl) (hcl : (s.keep || Nat.beq s.cls 2) = false := by rfl)
    (hc : cmpQ op (ev e x) (ev e y) = some c := by rfl) (hk : sameKind (ev e x) (ev e y) = true := by rfl) (h : c := by first | assumption | omega | (dsimp only; omega)) : Wk P B r n (s :: rest) pd e S Q :=
  S_cmp T hop hg hcl hc hk (fun _ => k) (fun x => absurd h x)
theorem A_cmpN (T : Tab P) {op : BinOp} {t t2 : TypeId} {x y : Operand} {c : Prop}
    (k : WkR T B r n rest pd (updO e s.o.dst (.bool false)) S Q)
    (hop : s.o.op = .binOp op t x y t2 := by rfl) (hg : wantedE e s.g = true := by rfl) (hcl : (s.keep || Nat.beq s.cls 2) = false := by rfl)
    (hc : cmpQ op (ev e x) (ev e y) = some c := by rfl) (hk : sameKind (ev e x) (ev e y) = true := by rfl) (h : ¬ c := by first | assumption | omega | (dsimp only; omega)) : Wk P B r n (s :: rest) pd e S Q :=
  S_cmp T hop hg hcl hc hk (fun x => absurd x h) (fun _ => k)

/-! ### Parts of slices -/
/-- A bound of a part. -/
def bnd (e : Env) (d : Nat) : Option Operand → Option Nat
  | none => some d
  | some x => match ev e x with
    | .int _ (.ofNat i) => some i
    | _ => none
theorem bnd_run {P : Program} {e : Env} {d lim : Nat} {x : Operand} {i : Nat} {code : BoundsCode} (h : bnd e d (some x) = some i) (hi : i ≤ lim) (w : World) : (Instr.sliceBound (ev e x) lim code).run P w = .ok i w := by
  unfold bnd at h
  split at h
  · rename_i he; cases he
  · rename_i y he
    cases he
    split at h
    · rename_i kk j hv
      simp only [Option.some.injEq] at h
      subst h
      simp only [Instr.sliceBound, hv, asIntOf, Sem.run_bind, Sem.run_pure, Result.andThen_ok]
      rw [if_pos ⟨by simp, by simp; exact hi⟩]
      simp
    · cases h

theorem bounds_run {P : Program} {e : Env} {isS : Bool} {len cap l h m : Nat} {lo hi mx : Option Operand} (hl : bnd e 0 lo = some l) (hh : bnd e len hi = some h) (hm : bnd e cap mx = some m) (hok : (mx.isSome = true → hi.isSome = true)) (hle : l ≤ h ∧ h ≤ m ∧ m ≤ cap) (w : World) :
    (Instr.sliceBounds isS len cap (lo.map (ev e)) (hi.map (ev e)) (mx.map (ev e))).run P w = .ok (l, h, m) w := by
  unfold Instr.sliceBounds
  simp only [Sem.run_bind]
  cases mx with
  | none =>
    simp only [bnd, Option.some.injEq] at hm
    subst hm
    cases hi with
    | none =>
      simp only [bnd, Option.some.injEq] at hh
      subst hh
      cases lo with
      | none => simp only [bnd, Option.some.injEq] at hl; subst hl; rfl
      | some lo => simp only [Option.map_none, Option.map_some, Sem.run_bind, Sem.run_pure, Result.andThen_ok, bnd_run hl hle.1]
    | some hi =>
      cases lo with
      | none => simp only [bnd, Option.some.injEq] at hl; subst hl; simp only [Option.map_none, Option.map_some, Sem.run_bind, Sem.run_pure, Result.andThen_ok, bnd_run hh hle.2.1]
      | some lo => simp only [Option.map_none, Option.map_some, Sem.run_bind, Sem.run_pure, Result.andThen_ok, bnd_run hl hle.1, bnd_run hh hle.2.1]
  | some mx =>
    cases hi with
    | none => simp at hok
    | some hi =>
      cases lo with
      | none => simp only [bnd, Option.some.injEq] at hl; subst hl; simp only [Option.map_none, Option.map_some, Sem.run_bind, Sem.run_pure, Result.andThen_ok, bnd_run hh hle.2.1, bnd_run hm hle.2.2]
      | some lo => simp only [Option.map_some, Sem.run_bind, Sem.run_pure, Result.andThen_ok, bnd_run hl hle.1, bnd_run hh hle.2.1, bnd_run hm hle.2.2]

theorem A_slcG (T : Tab P) {t : TypeId} {x : Operand} {lo hi mx : Option Operand} {i : TI} {a : Option Addr} {len cap l h m elem esz eb : Nat} {ez : List Value} {ea : Bool}
    (k : WkR T B r n rest (pdAdd s [] pd) (updO e s.o.dst (.slice (if m = l then a else a.map (·.add (l * esz))) (h - l) (m - l))) S Q)
    (hop : s.o.op = .slice t x lo hi mx) (hg : wantedE e s.g = true) (hcl : Nat.beq s.cls 2 = false) (ht : lookT T.l t = some i) (hk : i.kind = .slice elem esz eb ez ea)
    (hx : ev e x = .slice a len cap) (hl : bnd e 0 lo = some l) (hh : bnd e len hi = some h) (hm : bnd e cap mx = some m) (hok : (mx.isSome = true → hi.isSome = true)) (hle : l ≤ h ∧ h ≤ m ∧ m ≤ cap) : Wk P B r n (s :: rest) pd e S Q := by
  refine S_val T _ (fun w => ?_) (by simp [hop]) hg hcl k
  have := (T.at ht).kind
  rw [hk] at this
  obtain ⟨h1, h2, h3, _⟩ := this
  simp only [execOp, hop, hx, Instr.sliceAt, Instr.slice, Sem.run_bind, run_underlying_ok h1, Result.andThen_ok, bounds_run hl hh hm hok hle, run_sizeOf_ok h2, h3, Sem.run_pure]
/-- From the front on. -/
theorem A_slc0 (T : Tab P) {t : TypeId} {x : Operand} {lo hi mx : Option Operand} {i : TI} {a : Option Addr} {len cap h m elem esz eb : Nat} {ez : List Value} {ea : Bool}
    (k : WkR T B r n rest (pdAdd s [] pd) (updO e s.o.dst (.slice a h m)) S Q)
    (hop : s.o.op = .slice t x lo hi mx := by rfl) (hg : wantedE e s.g = true := by rfl) (hcl : Nat.beq s.cls 2 = false := by rfl) (ht : lookT T.l t = some i := by rfl) (hk : i.kind = .slice elem esz eb ez ea := by rfl)
    (hx : ev e x = .slice a len cap := by rfl) (hl : bnd e 0 lo = some 0 := by rfl) (hh : bnd e len hi = some h := by rfl) (hm : bnd e cap mx = some m := by rfl) (hok : (mx.isSome = true → hi.isSome = true) := by decide) (hle : h ≤ m ∧ m ≤ cap := by first | omega | (dsimp only; omega) | (simp at *; omega)) : Wk P B r n (s :: rest) pd e S Q := by
  refine A_slcG T (l := 0) (h := h) (m := m) (a := a) ?_ hop hg hcl ht hk hx hl hh hm hok ⟨by omega, hle.1, hle.2⟩
  have : (if m = 0 then a else a.map (·.add (0 * esz))) = a := by
    split
    · rfl
    · cases a <;> simp [Addr.add]
  rw [this]; exact k
/-- From further on. -/
theorem A_slc (T : Tab P) {t : TypeId} {x : Operand} {lo hi mx : Option Operand} {i : TI} {b off len cap l h m elem esz eb : Nat} {ez : List Value} {ea : Bool}
    (k : WkR T B r n rest (pdAdd s [] pd) (updO e s.o.dst (.slice (some ⟨b, off + l * esz, none⟩) (h - l) (m - l))) S Q)
    (hop : s.o.op = .slice t x lo hi mx := by rfl) (hg : wantedE e s.g = true := by rfl) (hcl : Nat.beq s.cls 2 = false := by rfl) (ht : lookT T.l t = some i := by rfl) (hk : i.kind = .slice elem esz eb ez ea := by rfl)
    (hx : ev e x = .slice (some ⟨b, off, none⟩) len cap := by rfl) (hl : bnd e 0 lo = some l := by rfl) (hh : bnd e len hi = some h := by rfl) (hm : bnd e cap mx = some m := by rfl) (hok : (mx.isSome = true → hi.isSome = true) := by decide) (hle : l ≤ h ∧ h ≤ m ∧ m ≤ cap ∧ l ≠ m := by first | omega | (dsimp only; omega) | (simp at *; omega)) : Wk P B r n (s :: rest) pd e S Q := by
  refine A_slcG T (l := l) (h := h) (m := m) (a := some ⟨b, off, none⟩) ?_ hop hg hcl ht hk hx hl hh hm hok ⟨hle.1, hle.2.1, hle.2.2.1⟩
  have : (if m = l then (some ⟨b, off, none⟩ : Option Addr) else (some ⟨b, off, none⟩ : Option Addr).map (·.add (l * esz))) = some ⟨b, off + l * esz, none⟩ := by
    rw [if_neg (fun e => hle.2.2.2 e.symm)]
    simp only [Option.map_some, Addr.add]
    split
    · rename_i h0; simp [h0]
    · rfl
  rw [this]; exact k
/-- What is behind the end. -/
theorem A_slcE (T : Tab P) {t : TypeId} {x : Operand} {lo hi mx : Option Operand} {i : TI} {a : Option Addr} {len cap l h m elem esz eb : Nat} {ez : List Value} {ea : Bool}
    (k : WkR T B r n rest (pdAdd s [] pd) (updO e s.o.dst (.slice a 0 0)) S Q)
    (hop : s.o.op = .slice t x lo hi mx := by rfl) (hg : wantedE e s.g = true := by rfl) (hcl : Nat.beq s.cls 2 = false := by rfl) (ht : lookT T.l t = some i := by rfl) (hk : i.kind = .slice elem esz eb ez ea := by rfl)
    (hx : ev e x = .slice a len cap := by rfl) (hl : bnd e 0 lo = some l := by rfl) (hh : bnd e len hi = some h := by rfl) (hm : bnd e cap mx = some m := by rfl) (hok : (mx.isSome = true → hi.isSome = true) := by decide) (hle : l = h ∧ h = m ∧ m ≤ cap := by first | omega | (dsimp only; omega) | (simp at *; omega)) : Wk P B r n (s :: rest) pd e S Q := by
  refine A_slcG T (l := l) (h := h) (m := m) (a := a) ?_ hop hg hcl ht hk hx hl hh hm hok ⟨by omega, by omega, by omega⟩
  rw [if_pos (by omega), show h - l = 0 by omega, show m - l = 0 by omega]; exact k
/-! ### Bounds and places that the prover names -/
def bndI (e : Env) (d : Int) : Option Operand → Option Int
  | none => some d
  | some x => match ev e x with
    | .int _ i => some i
    | _ => none
theorem bndI_run {P : Program} {e : Env} {d : Int} {lim : Nat} {x : Operand} {i : Nat} {code : BoundsCode} (h : bndI e d (some x) = some (i : Int)) (hi : i ≤ lim) (w : World) : (Instr.sliceBound (ev e x) lim code).run P w = .ok i w := by
  unfold bndI at h
  dsimp only at h
  split at h
  · rename_i kk j hv
    simp only [Option.some.injEq] at h
    subst h
    simp only [Instr.sliceBound, hv, asIntOf, Sem.run_bind, Sem.run_pure, Result.andThen_ok]
    rw [if_pos ⟨by omega, by omega⟩]
    simp
  · cases h
theorem boundsI_run {P : Program} {e : Env} {isS : Bool} {len cap l h m : Nat} {lo hi mx : Option Operand} (hl : bndI e 0 lo = some (l : Int)) (hh : bndI e len hi = some (h : Int)) (hm : bndI e cap mx = some (m : Int)) (hok : (mx.isSome = true → hi.isSome = true)) (hle : l ≤ h ∧ h ≤ m ∧ m ≤ cap) (w : World) :
    (Instr.sliceBounds isS len cap (lo.map (ev e)) (hi.map (ev e)) (mx.map (ev e))).run P w = .ok (l, h, m) w := by
  unfold Instr.sliceBounds
  simp only [Sem.run_bind]
  have nn : ∀ {a b : Nat}, bndI e (a : Int) none = some (b : Int) → a = b := fun h => by simp only [bndI, Option.some.injEq] at h; omega
  have n0 : ∀ {b : Nat}, bndI e 0 none = some (b : Int) → b = 0 := fun h => by simp only [bndI, Option.some.injEq] at h; omega
  cases mx with
  | none =>
    obtain rfl := nn hm
    cases hi with
    | none =>
      obtain rfl := nn hh
      cases lo with
      | none => obtain rfl := n0 hl; rfl
      | some lo => simp only [Option.map_none, Option.map_some, Sem.run_bind, Sem.run_pure, Result.andThen_ok, bndI_run hl hle.1]
    | some hi =>
      cases lo with
      | none => obtain rfl := n0 hl; simp only [Option.map_none, Option.map_some, Sem.run_bind, Sem.run_pure, Result.andThen_ok, bndI_run hh hle.2.1]
      | some lo => simp only [Option.map_none, Option.map_some, Sem.run_bind, Sem.run_pure, Result.andThen_ok, bndI_run hl hle.1, bndI_run hh hle.2.1]
  | some mx =>
    cases hi with
    | none => simp at hok
    | some hi =>
      cases lo with
      | none => obtain rfl := n0 hl; simp only [Option.map_none, Option.map_some, Sem.run_bind, Sem.run_pure, Result.andThen_ok, bndI_run hh hle.2.1, bndI_run hm hle.2.2]
      | some lo => simp only [Option.map_some, Sem.run_bind, Sem.run_pure, Result.andThen_ok, bndI_run hl hle.1, bndI_run hh hle.2.1, bndI_run hm hle.2.2]
theorem A_slcIG (T : Tab P) {t : TypeId} {x : Operand} {lo hi mx : Option Operand} {i : TI} {a : Option Addr} {len cap l h m elem esz eb : Nat} {ez : List Value} {ea : Bool}
    (k : WkR T B r n rest (pdAdd s [] pd) (updO e s.o.dst (.slice (if m = l then a else a.map (·.add (l * esz))) (h - l) (m - l))) S Q)
    (hop : s.o.op = .slice t x lo hi mx) (hg : wantedE e s.g = true) (hcl : Nat.beq s.cls 2 = false) (ht : lookT T.l t = some i) (hk : i.kind = .slice elem esz eb ez ea)
    (hx : ev e x = .slice a len cap) (hl : bndI e 0 lo = some (l : Int)) (hh : bndI e len hi = some (h : Int)) (hm : bndI e cap mx = some (m : Int)) (hok : (mx.isSome = true → hi.isSome = true)) (hle : l ≤ h ∧ h ≤ m ∧ m ≤ cap) : Wk P B r n (s :: rest) pd e S Q := by
  refine S_val T _ (fun w => ?_) (by simp [hop]) hg hcl k
  have := (T.at ht).kind
  rw [hk] at this
  obtain ⟨h1, h2, h3, _⟩ := this
  simp only [execOp, hop, hx, Instr.sliceAt, Instr.slice, Sem.run_bind, run_underlying_ok h1, Result.andThen_ok, boundsI_run hl hh hm hok hle, run_sizeOf_ok h2, h3, Sem.run_pure]
/-- A part; l, h and m (where its room ends) are named. -/
theorem A_slcN (T : Tab P) (l h m : Nat) {t : TypeId} {x : Operand} {lo hi mx : Option Operand} {i : TI} {b off len cap elem esz eb : Nat} {ez : List Value} {ea : Bool} {xl xh xm : Int}
    (k : WkR T B r n rest (pdAdd s [] pd) (updO e s.o.dst (.slice (some ⟨b, off + l * esz, none⟩) (h - l) (m - l))) S Q)
    (hop : s.o.op = .slice t x lo hi mx := by rfl) (hg : wantedE e s.g = true := by rfl) (hcl : Nat.beq s.cls 2 = false := by rfl) (ht : lookT T.l t = some i := by rfl) (hk : i.kind = .slice elem esz eb ez ea := by rfl)
    (hx : ev e x = .slice (some ⟨b, off, none⟩) len cap := by rfl) (hl : bndI e 0 lo = some xl := by rfl) (hh : bndI e len hi = some xh := by rfl) (hm : bndI e cap mx = some xm := by rfl) (hok : (mx.isSome = true → hi.isSome = true) := by decide)
    (hxl : xl = l := by omega) (hxh : xh = h := by omega) (hxm : xm = m := by omega) (hle : l ≤ h ∧ h ≤ m ∧ m ≤ cap ∧ l ≠ m := by omega) : Wk P B r n (s :: rest) pd e S Q := by
  subst hxl; subst hxh; subst hxm
  refine A_slcIG T (l := l) (h := h) (m := m) (a := some ⟨b, off, none⟩) ?_ hop hg hcl ht hk hx hl hh hm hok ⟨hle.1, hle.2.1, hle.2.2.1⟩
  have : (if m = l then (some ⟨b, off, none⟩ : Option Addr) else (some ⟨b, off, none⟩ : Option Addr).map (·.add (l * esz))) = some ⟨b, off + l * esz, none⟩ := by
    rw [if_neg (fun e => hle.2.2.2 e.symm)]
    simp only [Option.map_some, Addr.add]
    split
    · rename_i h0; simp [h0]
    · rfl
  rw [this]; exact k
/-- From the front. -/
theorem A_slc0N (T : Tab P) (h m : Nat) {t : TypeId} {x : Operand} {lo hi mx : Option Operand} {i : TI} {a : Option Addr} {len cap elem esz eb : Nat} {ez : List Value} {ea : Bool} {xl xh xm : Int}
    (k : WkR T B r n rest (pdAdd s [] pd) (updO e s.o.dst (.slice a h m)) S Q)
    (hop : s.o.op = .slice t x lo hi mx := by rfl) (hg : wantedE e s.g = true := by rfl) (hcl : Nat.beq s.cls 2 = false := by rfl) (ht : lookT T.l t = some i := by rfl) (hk : i.kind = .slice elem esz eb ez ea := by rfl)
    (hx : ev e x = .slice a len cap := by rfl) (hl : bndI e 0 lo = some xl := by rfl) (hh : bndI e len hi = some xh := by rfl) (hm : bndI e cap mx = some xm := by rfl) (hok : (mx.isSome = true → hi.isSome = true) := by decide)
    (hxl : xl = (0 : Nat) := by omega) (hxh : xh = h := by omega) (hxm : xm = m := by omega) (hle : h ≤ m ∧ m ≤ cap := by omega) : Wk P B r n (s :: rest) pd e S Q := by
  subst hxl; subst hxh; subst hxm
  refine A_slcIG T (l := 0) (h := h) (m := m) (a := a) ?_ hop hg hcl ht hk hx hl hh hm hok ⟨by omega, hle.1, hle.2⟩
  have : (if m = 0 then a else a.map (·.add (0 * esz))) = a := by
    split
    · rfl
    · cases a <;> simp [Addr.add]
  rw [this]; exact k
/-- What is behind the room. -/
theorem A_slcEN (T : Tab P) (l : Nat) {t : TypeId} {x : Operand} {lo hi mx : Option Operand} {i : TI} {a : Option Addr} {len cap elem esz eb : Nat} {ez : List Value} {ea : Bool} {xl xh xm : Int}
    (k : WkR T B r n rest (pdAdd s [] pd) (updO e s.o.dst (.slice a 0 0)) S Q)
    (hop : s.o.op = .slice t x lo hi mx := by rfl) (hg : wantedE e s.g = true := by rfl) (hcl : Nat.beq s.cls 2 = false := by rfl) (ht : lookT T.l t = some i := by rfl) (hk : i.kind = .slice elem esz eb ez ea := by rfl)
    (hx : ev e x = .slice a len cap := by rfl) (hl : bndI e 0 lo = some xl := by rfl) (hh : bndI e len hi = some xh := by rfl) (hm : bndI e cap mx = some xm := by rfl) (hok : (mx.isSome = true → hi.isSome = true) := by decide)
    (hxl : xl = l := by omega) (hxh : xh = l := by omega) (hxm : xm = l := by omega) (hle : l ≤ cap := by omega) : Wk P B r n (s :: rest) pd e S Q := by
  subst hxl; subst hxh; subst hxm
  refine A_slcIG T (l := l) (h := l) (m := l) (a := a) ?_ hop hg hcl ht hk hx hl hh hm hok ⟨by omega, by omega, by omega⟩
  rw [if_pos rfl, Nat.sub_self]; exact k
/-- An element; its place is named. -/
theorem S_ixN (T : Tab P) (m : Nat) {t : TypeId} {x y : Operand} {i : TI} {b off l cap elem esz eb : Nat} {ez : List Value} {ea : Bool} {kd : IntKind} {j : Int}
    (k : WkR T B r n rest (pdAdd s [] pd) (updO e s.o.dst (.pointer (some ⟨b, off + m * esz, none⟩))) S Q)
    (hop : s.o.op = .indexAddr t x y := by rfl) (hg : wantedE e s.g = true := by rfl) (hcl : Nat.beq s.cls 2 = false := by rfl) (ht : lookT T.l t = some i := by rfl) (hk : i.kind = .slice elem esz eb ez ea := by rfl)
    (hx : ev e x = .slice (some ⟨b, off, none⟩) l cap := by rfl) (hy : ev e y = .int kd j := by rfl) (hj : j = m := by omega) (hb : m < l := by first | assumption | omega) : Wk P B r n (s :: rest) pd e S Q := by
  subst hj
  exact S_ix T (j := (m : Int)) (by simpa using k) hop hg hcl ht hk hx hy ⟨by omega, by omega⟩
/-! ### Sums that do not go over -/
def isAr : Op → Bool
  | .binOp .add .. => true
  | .binOp .sub .. => true
  | _ => false
def pureRunN (tb : Nat → Option TI) : Nat → List St → Env → List St × Env
  | 0, l, e => (l, e)
  | _ + 1, [], e => ([], e)
  | k + 1, s :: rest, e =>
    match wantedE e s.g with
    | false => bif s.keep then (s :: rest, e) else pureRunN tb k rest (updO e s.o.dst undef)
    | true => bif s.keep || Nat.beq s.cls 2 || isAr s.o.op then (s :: rest, e) else match evalP tb e s.o.op with
      | some v => pureRunN tb k rest (updO e s.o.dst v)
      | none => (s :: rest, e)
theorem W_puresN (T : Tab P) (k : Nat) {todo : List St} {e : Env} (h : Wk P B r n (pureRunN (lookT T.l) k todo e).1 pd (pureRunN (lookT T.l) k todo e).2 S Q) : Wk P B r n todo pd e S Q := by
  induction k generalizing todo e with
  | zero => exact h
  | succ k ih =>
    cases todo with
    | nil => exact h
    | cons s rest =>
      simp only [pureRunN] at h
      cases hg : wantedE e s.g with
      | false =>
        rw [hg] at h
        dsimp only at h
        cases hk : s.keep with
        | true => rw [hk] at h; exact h
        | false => rw [hk] at h; exact .skip hg (by simpa [pdAdd, hk] using ih h)
      | true =>
        rw [hg] at h
        dsimp only at h
        cases hk : (s.keep || Nat.beq s.cls 2 || isAr s.o.op) with
        | true => rw [hk] at h; exact h
        | false =>
          rw [hk] at h
          simp only [Bool.or_eq_false_iff] at hk
          simp only [cond_false] at h
          cases hv : evalP (lookT T.l) e s.o.op with
          | none => rw [hv] at h; exact h
          | some v =>
            rw [hv] at h
            exact .float v [] S hg hk.1.2 (fun _ => rfl) .nil (OpT_pure T hv) (by simpa [pdAdd, hk.1.1] using ih h)
theorem W_goN (T : Tab P) {todo' : List St} {e' : Env} (hr : pureRunN (lookT T.l) 100 todo e = (todo', e')) (h : Wk P B r n todo' pd e' S Q) : WkR T B r n todo pd e S Q :=
  ⟨W_puresN T 100 (by rw [hr]; exact h)⟩
theorem A_addN (T : Tab P) {t t2 : TypeId} {x y : Operand} {a b : Int}
    (k : WkR T B r n rest (pdAdd s [] pd) (updO e s.o.dst (.int .i64 (a + b))) S Q)
    (hop : s.o.op = .binOp .add t x y t2 := by rfl) (hg : wantedE e s.g = true := by rfl) (hcl : Nat.beq s.cls 2 = false := by rfl) (hx : ev e x = .int .i64 a := by rfl) (hy : ev e y = .int .i64 b := by rfl) (h1 : -9223372036854775808 ≤ a + b ∧ a + b < 9223372036854775808 := by first | omega | (dsimp only; omega)) : Wk P B r n (s :: rest) pd e S Q := by
  refine A_bin T (fun w => ?_) k hop hg hcl hx hy
  have : IntKind.i64.wrap (a + b) = a + b := by rw [wr_eq]; exact w64_id h1.1 h1.2
  simp [Go.binOp, Op.intArith, this]
theorem A_subN (T : Tab P) {t t2 : TypeId} {x y : Operand} {a b : Int}
    (k : WkR T B r n rest (pdAdd s [] pd) (updO e s.o.dst (.int .i64 (a - b))) S Q)
    (hop : s.o.op = .binOp .sub t x y t2 := by rfl) (hg : wantedE e s.g = true := by rfl) (hcl : Nat.beq s.cls 2 = false := by rfl) (hx : ev e x = .int .i64 a := by rfl) (hy : ev e y = .int .i64 b := by rfl) (h1 : -9223372036854775808 ≤ a - b ∧ a - b < 9223372036854775808 := by first | omega | (dsimp only; omega)) : Wk P B r n (s :: rest) pd e S Q := by
  refine A_bin T (fun w => ?_) k hop hg hcl hx hy
  have : IntKind.i64.wrap (a - b) = a - b := by rw [wr_eq]; exact w64_id h1.1 h1.2
  simp [Go.binOp, Op.intArith, this]
theorem A_addW (T : Tab P) {t t2 : TypeId} {x y : Operand} {kd : IntKind} {a b : Int}
    (k : WkR T B r n rest (pdAdd s [] pd) (updO e s.o.dst (.int kd (wr kd (a + b)))) S Q)
    (hop : s.o.op = .binOp .add t x y t2 := by rfl) (hg : wantedE e s.g = true := by rfl) (hcl : Nat.beq s.cls 2 = false := by rfl) (hx : ev e x = .int kd a := by rfl) (hy : ev e y = .int kd b := by rfl) : Wk P B r n (s :: rest) pd e S Q := by
  refine A_bin T (fun w => ?_) k hop hg hcl hx hy
  simp [Go.binOp, Op.intArith, wr_eq]
theorem A_subW (T : Tab P) {t t2 : TypeId} {x y : Operand} {kd : IntKind} {a b : Int}
    (k : WkR T B r n rest (pdAdd s [] pd) (updO e s.o.dst (.int kd (wr kd (a - b)))) S Q)
    (hop : s.o.op = .binOp .sub t x y t2 := by rfl) (hg : wantedE e s.g = true := by rfl) (hcl : Nat.beq s.cls 2 = false := by rfl) (hx : ev e x = .int kd a := by rfl) (hy : ev e y = .int kd b := by rfl) : Wk P B r n (s :: rest) pd e S Q := by
  refine A_bin T (fun w => ?_) k hop hg hcl hx hy
  simp [Go.binOp, Op.intArith, wr_eq]
end
end Go.Rz
