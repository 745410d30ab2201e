/- The walk's rules, operation by operation. -/
import Derived.Test.YtjkpfnmkhjlllaaGreatDoorRzWalk
import Derived.Laws.Slices
import Derived.RowKit
import Derived.WideLaws
import Derived.IntWalk
set_option linter.unusedVariables false
set_option linter.unusedSimpArgs false
namespace Go.Rz
open Go.RowKit (Below)
set_option linter.unusedVariables false

/-! ### What is known of a type -/
inductive TK where
  | plain
  | str
  | ptr
  | fn
  | map
  | bool
  | int
  | struct (fs : List (Nat × Nat × Bool))
  | slice (elem esz ebytes : Nat) (ez : List Value) (eagg : Bool)
  | array (len elem esz : Nat)
structure TI where
  agg : Bool
  sz : Nat
  zero : List Value
  kind : TK

def mkV (agg : Bool) (zs : List Value) : Value := bif agg then .agg zs.toArray else zs.headD undef
def aggB (P : Program) (t : TypeId) : Bool := match P.underlying t with | some (.struct _) | some (.array ..) => true | _ => false
def tOk (P : Program) (t : TypeId) : Bool := (P.info? t).isSome && (P.underlying t).isSome
def fieldsOf (P : Program) (t : TypeId) : Option (List (Nat × Nat × Bool)) :=
  match P.underlying t with
  | some (.struct fs) => if fs.all (fun fd => tOk P fd.type && Nat.blt 0 (P.cellsOf fd.type)) then some (fs.toList.map fun fd => (fd.offset, P.cellsOf fd.type, aggB P fd.type)) else none
  | _ => none

def kindOk (P : Program) (t : TypeId) : TK → Prop
  | .plain => True
  | .str => P.underlying t = some .string
  | .ptr => ∃ e, P.underlying t = some (.pointer e)
  | .fn => ∃ a b c, P.underlying t = some (.func a b c)
  | .map => ∃ k v, P.underlying t = some (.map k v)
  | .bool => P.underlying t = some .bool
  | .int => ∃ k, P.underlying t = some (.int k)
  | .struct fs => fieldsOf P t = some fs
  | .slice e esz eb ez ea => P.underlying t = some (.slice e) ∧ tOk P e = true ∧ P.cellsOf e = esz ∧ P.bytesOf e = eb ∧ (P.info? e).map (·.zero) = some (some (mkV ea ez)) ∧ ez.length = esz ∧ aggB P e = ea
  | .array n e esz => P.underlying t = some (.array n e) ∧ tOk P e = true ∧ P.cellsOf e = esz

structure TIok (P : Program) (t : TypeId) (i : TI) : Prop where
  ok : tOk P t = true
  agg : aggB P t = i.agg
  size : P.cellsOf t = i.sz
  zero : (P.info? t).map (·.zero) = some (some (mkV i.agg i.zero))
  len : i.zero.length = i.sz
  kind : kindOk P t i.kind

def lookT : List (Nat × TI) → Nat → Option TI
  | [], _ => none
  | (t, i) :: l, u => bif Nat.beq t u then some i else lookT l u

/-- A program's table of types. -/
structure Tab (P : Program) where
  l : List (Nat × TI)
  ok : ∀ x ∈ l, TIok P x.1 x.2
theorem lookT_mem {l : List (Nat × TI)} {t : Nat} {i : TI} (h : lookT l t = some i) : (t, i) ∈ l := by
  induction l with
  | nil => cases h
  | cons x l ih =>
    obtain ⟨u, j⟩ := x
    simp only [lookT] at h
    cases hb : Nat.beq u t with
    | true => rw [hb] at h; simp at h; subst h; rw [Nat.eq_of_beq_eq_true hb]; simp
    | false => rw [hb] at h; exact List.mem_cons_of_mem _ (ih h)
theorem Tab.at {P : Program} (T : Tab P) {t : Nat} {i : TI} (h : lookT T.l t = some i) : TIok P t i := T.ok _ (lookT_mem h)

theorem run_underlying_ok {P : Program} {t : TypeId} {w : World} {d : TypeDesc} (h : P.underlying t = some d) : (underlying t).run P w = .ok d w := by simp [underlying, h]
theorem run_typeInfo_ok {P : Program} {t : TypeId} {w : World} {i : TypeInfo} (h : P.info? t = some i) : (typeInfo t).run P w = .ok i w := by simp [typeInfo, h]
theorem run_isAgg_ok {P : Program} {t : TypeId} (h : tOk P t = true) (w : World) : (isAgg t).run P w = .ok (aggB P t) w := by
  simp only [tOk, Bool.and_eq_true, Option.isSome_iff_exists] at h
  obtain ⟨_, d, hd⟩ := h
  unfold isAgg aggB
  simp only [Sem.run_bind, run_underlying_ok hd, Result.andThen_ok, hd]
  cases d <;> rfl
theorem run_sizeOf_ok {P : Program} {t : TypeId} (h : tOk P t = true) (w : World) : (sizeOf t).run P w = .ok (P.cellsOf t) w := by
  simp only [tOk, Bool.and_eq_true, Option.isSome_iff_exists] at h
  obtain ⟨⟨i, hi⟩, _⟩ := h
  simp [sizeOf, run_typeInfo_ok hi, Program.cellsOf, hi]
theorem run_zero_ok {P : Program} {t : TypeId} {v : Value} (h : (P.info? t).map (·.zero) = some (some v)) (w : World) : (zeroValue t).run P w = .ok v w := by
  cases hi : P.info? t with
  | none => rw [hi] at h; cases h
  | some i => rw [hi] at h; simp at h; simp [zeroValue, run_typeInfo_ok hi, h]
theorem TIok.isAgg {P : Program} {t : TypeId} {i : TI} (h : TIok P t i) (w : World) : (Go.isAgg t).run P w = .ok i.agg w := by rw [run_isAgg_ok h.ok, h.agg]
theorem TIok.sizeOf {P : Program} {t : TypeId} {i : TI} (h : TIok P t i) (w : World) : (Go.sizeOf t).run P w = .ok i.sz w := by rw [run_sizeOf_ok h.ok, h.size]
theorem TIok.zeroV {P : Program} {t : TypeId} {i : TI} (h : TIok P t i) (w : World) : (zeroValue t).run P w = .ok (mkV i.agg i.zero) w := run_zero_ok h.zero w

/-! ### What may be read -/
/-- In every world in which F holds the cells from there on are vs. -/
def RdF (B : Base) (F : HProp) (b off : Nat) (vs : List Value) : Prop := ∀ w R, Sat B w (F :: R) → ∀ i v, vs[i]? = some v → w.cell? ⟨b, off + i, none⟩ = some v
theorem RdF_pts {B : Base} {b off : Nat} {vs : List Value} : RdF B (pts b off vs) b off vs := fun w R hs i v h => hs.cell? h
/-- What the law was given. -/
theorem RdF_base {B : Base} {F : HProp} {b off : Nat} {vs : List Value} (hb : b < B.n0) (h : ∀ i v, vs[i]? = some v → B.w0.cell? ⟨b, off + i, none⟩ = some v) : RdF B F b off vs := fun w R hs i v hv => by
  rw [hs.below.cell (p := ⟨b, off + i, none⟩) hb]; exact h i v hv
theorem RdF.sub {B : Base} {F : HProp} {b off : Nat} {vs us rs : List Value} (h : RdF B F b off (vs ++ us ++ rs)) : RdF B F b (off + vs.length) us := fun w R hs i v hv => by
  have hi : i < us.length := (List.getElem?_eq_some_iff.1 hv).1
  rw [Nat.add_assoc]
  refine h w R hs (vs.length + i) v ?_
  rw [List.append_assoc, List.getElem?_append_right (by omega), List.getElem?_append_left (by omega)]
  simpa using hv

theorem loadCellsFrom_run {P : Program} {w : World} {b off : Nat} : ∀ (n i : Nat) (vs : List Value) (acc : Array Value), vs.length = n → (∀ j v, vs[j]? = some v → w.cell? ⟨b, off + i + j, none⟩ = some v) →
    (loadCellsFrom ⟨b, off, none⟩ i n acc).run P w = .ok (acc ++ vs.toArray) w := by
  intro n
  induction n with
  | zero => intro i vs acc hl _; cases vs <;> simp_all [loadCellsFrom]
  | succ n ih =>
    intro i vs acc hl h
    cases vs with
    | nil => cases hl
    | cons v vs =>
      have h0 := h 0 v (by simp)
      have ha : (Addr.add ⟨b, off, none⟩ i) = ⟨b, off + i, none⟩ := by simp [Addr.add]
      simp only [loadCellsFrom, Sem.run_bind, ha, run_load]
      rw [show off + i + 0 = off + i from rfl] at h0
      rw [h0]
      simp only [Result.andThen_ok]
      rw [ih (i + 1) vs (acc.push v) (by simpa using hl) (fun j u hu => by
        have := h (j + 1) u (by simpa using hu)
        rw [show off + (i + 1) + j = off + i + (j + 1) by omega]; exact this)]
      simp

theorem run_loadVar_ok {P : Program} {w : World} {t : TypeId} {i : TI} (hT : TIok P t i) {b off : Nat} {vs : List Value} (hl : vs.length = i.sz) (h1 : i.agg = false → i.sz = 1) (h : ∀ j v, vs[j]? = some v → w.cell? ⟨b, off + j, none⟩ = some v) :
    (loadVar t ⟨b, off, none⟩).run P w = .ok (mkV i.agg vs) w := by
  unfold loadVar
  simp only [Sem.run_bind, hT.isAgg, Result.andThen_ok]
  cases ha : i.agg with
  | true =>
    simp only [if_true, Sem.run_bind, hT.sizeOf, Result.andThen_ok]
    have := loadCellsFrom_run (P := P) (w := w) (b := b) (off := off) i.sz 0 vs #[] hl (by simpa using h)
    unfold loadCells
    simp [this, mkV]
  | false =>
    have h1 := h1 ha
    cases vs with
    | nil => simp at hl; omega
    | cons v l =>
      have h0 := h 0 v (by simp)
      simp only [Bool.false_eq_true, if_false, run_load]
      rw [show (⟨b, off, none⟩ : Addr) = ⟨b, off + 0, none⟩ from rfl, h0]; rfl

def one (v : Value) : Bool := match v with | .agg _ | .tuple _ => false | _ => true

theorem storeCells_run {P : Program} {B : Base} {S : List HProp} {b off : Nat} : ∀ (us : List Value) (i : Nat) (vs : List Value) (w : World), Sat B w (pts b off vs :: S) → i + us.length ≤ vs.length → us.all one = true →
    ∃ w', (storeCells ⟨b, off, none⟩ us i).run P w = .ok () w' ∧ Sat B w' (pts b off (vs.take i ++ us ++ vs.drop (i + us.length)) :: S) := by
  intro us
  induction us with
  | nil => intro i vs w hs hl _; exact ⟨w, rfl, by simpa using hs⟩
  | cons u us ih =>
    intro i vs w hs hl ho
    simp only [List.all_cons, Bool.and_eq_true] at ho
    simp only [List.length_cons] at hl
    have ha : (Addr.add ⟨b, off, none⟩ i) = ⟨b, off + i, none⟩ := by simp [Addr.add]
    obtain ⟨w', h1, h2⟩ := ih (i + 1) (vs.set i u) _ (hs.setCell (i := i) (by omega) u) (by simp; omega) ho.2
    refine ⟨w', ?_, ?_⟩
    · simp only [storeCells, Sem.run_bind, ha]
      rw [run_store _ _ _ _ _ (by cases u <;> simp_all [one, Value.oneCell']), hs.cell? (i := i) (v := vs[i]'(by omega)) (by simp), hs.frozen? (i := i) (v := vs[i]'(by omega)) (by simp)]
      simpa using h1
    · refine h2.mono fun h => seps_head_mono fun h hp => ?_
      have : vs.take i ++ u :: us ++ vs.drop (i + (us.length + 1)) = (vs.set i u).take (i + 1) ++ us ++ (vs.set i u).drop (i + 1 + us.length) := by
        rw [List.take_succ_eq_append_getElem (by simp; omega), List.take_set_of_le (by omega), List.drop_set_of_lt (by omega)]
        simp [Nat.add_comm, Nat.add_left_comm]
      simp only [List.length_cons]
      rw [this]; exact hp

theorem run_storeVar_ok {P : Program} {B : Base} {S : List HProp} {w : World} {t : TypeId} {i : TI} (hT : TIok P t i) {b off : Nat} {pre vs post us : List Value} {v : Value} (hv : v.cells.toList = us) (hs : Sat B w (pts b off (pre ++ vs ++ post) :: S)) (hl : vs.length = i.sz) (hu : us.length = i.sz) (ho : us.all one = true) :
    ∃ w', (storeVar t ⟨b, off + pre.length, none⟩ v).run P w = .ok () w' ∧ Sat B w' (pts b off (pre ++ us ++ post) :: S) := by
  have hs1 : Sat B w (pts b off pre :: pts b (off + pre.length) (vs ++ post) :: S) := hs.mono fun h H => pts_split (by rw [List.append_assoc] at H; exact H)
  have hs2 : Sat B w (pts b (off + pre.length) (vs ++ post) :: pts b off pre :: S) := hs1.mono fun h => seps_swap
  obtain ⟨w', h1, h2⟩ := storeCells_run (P := P) us 0 (vs ++ post) w hs2 (by simp; omega) ho
  refine ⟨w', ?_, ?_⟩
  · unfold storeVar
    simp only [Sem.run_bind, hT.sizeOf, Result.andThen_ok]
    rw [if_neg (by rw [← hu, ← hv]; simp)]
    rw [hv]; exact h1
  · refine h2.mono fun h H => ?_
    have h3 := pts_join (seps_swap H)
    simp only [List.take_zero, List.nil_append, Nat.zero_add] at h3
    rw [show (vs ++ post).drop us.length = post by rw [hu, ← hl]; simp] at h3
    simpa using h3

/-! ### From a run to the rule -/
theorem OpT_run {P : Program} {B : Base} {r : Option Nat} {n : Nat} {o : Oper} {e : Env} {A : List HProp} {Bp : Value → List HProp → Prop} (hd : (∀ c, o.op ≠ .defer c) ∧ ∀ cs b, o.op ≠ .select cs b)
    (h : ∀ (fr : List HProp) (w : World), Sat B w (A ++ fr) → ∃ v L w', (execOp (ev e) o).run P w = .ok (.value v) w' ∧ Bp v L ∧ Sat B w' (L ++ fr)) : OpT P B r n o e A Bp := by
  intro fr w hs a next Q ha hk
  obtain ⟨v, L, w', hr, hb, hs'⟩ := h fr w hs
  refine ⟨fun _ _ => trivial, ?_⟩
  rw [Oper.semAt_eq _ _ _ hd.1, execOp_congr o hd.2 ha, hr]
  exact hk v L w' hb hs'
theorem OpT_run_skip {P : Program} {B : Base} {r : Option Nat} {n : Nat} {o : Oper} {e : Env} {A : List HProp} {Bp : Value → List HProp → Prop} (hd : (∀ c, o.op ≠ .defer c) ∧ ∀ cs b, o.op ≠ .select cs b)
    (h : ∀ (fr : List HProp) (w : World), Sat B w (A ++ fr) → ∃ L w', (execOp (ev e) o).run P w = .ok .skip w' ∧ Bp undef L ∧ Sat B w' (L ++ fr)) : OpT P B r n o e A Bp := by
  intro fr w hs a next Q ha hk
  obtain ⟨L, w', hr, hb, hs'⟩ := h fr w hs
  refine ⟨fun _ _ => trivial, ?_⟩
  rw [Oper.semAt_eq _ _ _ hd.1, execOp_congr o hd.2 ha, hr]
  exact hk undef L w' hb hs'

/-! ### What only computes -/
def w64 (n : Int) : Int := (n + 9223372036854775808) % 18446744073709551616 - 9223372036854775808
theorem w64_id {n : Int} (h1 : -9223372036854775808 ≤ n) (h2 : n < 9223372036854775808) : w64 n = n := by unfold w64; omega
def wr : IntKind → Int → Int
  | .i64, n => w64 n
  | .u64, n => n % 18446744073709551616
  | .u8, n => n % 256
  | .u32, n => n % 4294967296
  | k, n => k.wrap n
theorem wr_eq (k : IntKind) (n : Int) : k.wrap n = wr k n := by
  cases k <;> first
    | rfl
    | (simp only [wr, w64, IntKind.wrap, IntKind.bits, IntKind.signed]; simp; try (split <;> omega))

def binP (op : BinOp) (x y : Value) : Option Value :=
  match x, y with
  | .int k a, .int k' b =>
    match op with
    | .add => bif decide (k = k') then some (.int k (wr k (a + b))) else none
    | .sub => bif decide (k = k') then some (.int k (wr k (a - b))) else none
    | .mul => bif decide (k = k') then some (.int k (wr k (a * b))) else none
    | _ => none
  | _, _ => none

/-- nil against nil, nil against something. -/
def nilEq : Value → Value → Option Bool
  | .pointer none, .pointer none => some true
  | .pointer (some _), .pointer none => some false
  | .pointer none, .pointer (some _) => some false
  | .slice none _ _, .slice none _ _ => some true
  | .slice (some _) _ _, .slice none _ _ => some false
  | .func _ _ _, .nilFunc => some false
  | .nilFunc, .nilFunc => some true
  | .map none, .map none => some true
  | .map (some _), .map none => some false
  | .bool true, .bool true => some true
  | .bool true, .bool false => some false
  | .bool false, .bool true => some false
  | .bool false, .bool false => some true
  | _, _ => none

def kindNil : TK → Value → Bool
  | .ptr, .pointer _ => true
  | .slice .., .slice _ _ _ => true
  | .fn, .func _ _ _ => true
  | .fn, .nilFunc => true
  | .map, .map _ => true
  | .bool, .bool _ => true
  | _, _ => false

def lenOfV : Value → Option Nat
  | .slice _ n _ => some n
  | .string s => some s.size
  | _ => none
def kindLen : TK → Value → Bool
  | .slice .., .slice _ _ _ => true
  | .str, .string _ => true
  | _, _ => false

def eqP (i : Option TI) (neg : Bool) (x y : Value) : Option Value :=
  match i with
  | some i => bif kindNil i.kind x then (match nilEq x y with | some b => some (.bool (b != neg)) | none => none) else none
  | none => none
def lenP (i : Option TI) (x : Value) : Option Value :=
  match i with
  | some i => bif kindLen i.kind x then (match lenOfV x with | some n => some (.int .i64 n) | none => none) else none
  | none => none

/-- A struct's cells, part by part. -/
def spl : List Value → Nat → List Value → List Value
  | vs, 0, us => us ++ vs.drop us.length
  | [], _ + 1, _ => []
  | v :: vs, k + 1, us => v :: spl vs k us
def buildC (fs : List (Nat × Nat × Bool)) : List Value → List (Nat × Value) → Option (List Value)
  | cs, [] => some cs
  | cs, (i, v) :: l => match fs[i]? with
    | some (o, sz, _) => bif Nat.beq v.cells.size sz && Nat.ble (o + sz) cs.length then buildC fs (spl cs o v.cells.toList) l else none
    | none => none
def fieldC (fs : List (Nat × Nat × Bool)) (cs : List Value) (f : Nat) : Option Value := match fs[f]? with
  | some (o, sz, true) => some (.agg ((cs.drop o).take sz).toArray)
  | some (o, _, false) => cs[o]?
  | none => none

/-- What an operation that only computes gives. -/
def evalP (tb : Nat → Option TI) (e : Env) : Op → Option Value
  | .move x => some (ev e x)
  | .assign x => some (ev e x)
  | .pick c a b => match ev e c with
    | .bool true => some (ev e a)
    | .bool false => some (ev e b)
    | _ => none
  | .nilCheck x => match ev e x with
    | .pointer (some a) => some (.pointer (some a))
    | _ => none
  | .binOp op t x y _ => match op with
    | .eql => eqP (tb t) false (ev e x) (ev e y)
    | .neq => eqP (tb t) true (ev e x) (ev e y)
    | op => binP op (ev e x) (ev e y)
  | .unOp op _ x => match op, ev e x with
    | .not, .bool true => some (.bool false)
    | .not, .bool false => some (.bool true)
    | _, _ => none
  | .fieldAddr t x f => match ev e x with
    | .pointer (some ⟨b, off, none⟩) => match tb t with
      | some i => match i.kind with
        | .struct fs => match fs[f]? with
          | some (o, _, _) => some (.pointer (some ⟨b, off + o, none⟩))
          | none => none
        | _ => none
      | none => none
    | _ => none
  | .extract x i => match ev e x with
    | .tuple vs => vs[i]?
    | _ => none
  | .makeFunc fn first captured => some (.func fn (first.toList.map (ev e)).toArray (captured.toList.map (ev e)).toArray)
  | .build t parts => match tb t with
    | some i => match i.kind with
      | .struct fs => match buildC fs i.zero (parts.toList.map fun (k, x) => (k, ev e x)) with
        | some cs => bif i.agg then some (.agg cs.toArray) else none
        | none => none
      | _ => none
    | none => none
  | .field t x f => match ev e x with
    | .agg cs => match tb t with
      | some i => match i.kind with
        | .struct fs => fieldC fs cs.toList f
        | _ => none
      | none => none
    | _ => none
  | .call c => match c.callee, c.args.toList, c.argTypes.toList with
    | .builtin .len, [x], [t] => lenP (tb t) (ev e x)
    | _, _, _ => none
  | _ => none

theorem nilEq_run {P : Program} {t : TypeId} {k : TK} {x y : Value} {b : Bool} (hk : kindOk P t k) (h1 : kindNil k x = true) (h : nilEq x y = some b) (w : World) : (Op.equal t x y).run P w = .ok b w := by
  show (Op.equalIn (9999 + 1) t x y).run P w = _
  unfold Op.equalIn
  simp only [Sem.run_bind]
  have go : ∀ d, P.underlying t = some d → (underlying t).run P w = .ok d w := fun d hd => run_underlying_ok hd
  cases k with
  | plain => cases x <;> simp [kindNil] at h1
  | str => cases x <;> simp [kindNil] at h1
  | int => cases x <;> simp [kindNil] at h1
  | struct _ => cases x <;> simp [kindNil] at h1
  | array _ _ _ => cases x <;> simp [kindNil] at h1
  | ptr =>
    obtain ⟨a1, hk⟩ := hk
    cases x <;> simp [kindNil] at h1
    rw [go _ hk]; simp only [Result.andThen_ok]
    unfold nilEq at h; split at h <;> simp_all
  | fn =>
    obtain ⟨a1, a2, a3, hk⟩ := hk
    cases x <;> simp [kindNil] at h1 <;> (rw [go _ hk]; simp only [Result.andThen_ok]; unfold nilEq at h; split at h <;> simp_all)
  | map =>
    obtain ⟨a1, a2, hk⟩ := hk
    cases x <;> simp [kindNil] at h1
    rw [go _ hk]; simp only [Result.andThen_ok]
    unfold nilEq at h; split at h <;> simp_all
  | bool =>
    cases x <;> simp [kindNil] at h1
    rw [go _ hk]; simp only [Result.andThen_ok]
    unfold nilEq at h; split at h <;> simp_all
  | slice _ _ _ _ _ =>
    cases x <;> simp [kindNil] at h1
    rw [go _ hk.1]; simp only [Result.andThen_ok]
    unfold nilEq at h; split at h <;> simp_all

theorem eqGuard_run {P : Program} {op : BinOp} {t : TypeId} {x y : Operand} {a b : Value} (h : ∀ c d, a ≠ .agg c ∨ b ≠ .agg d) (h2 : a ≠ .nilIface) (w : World) : (eqGuard op t x y a b).run P w = .ok () w := by
  unfold eqGuard
  cases op <;> (try rfl) <;> (simp; cases a <;> (try rfl) <;> (try (exact absurd rfl h2)) <;> (cases b <;> (try rfl) <;> (rename_i c d; exact absurd rfl ((h c d).resolve_left (by simp)))))

theorem lenP_run {P : Program} (T : Tab P) {t : TypeId} {x v : Value} (h : lenP (lookT T.l t) x = some v) (w : World) : (Builtin.len_ #[t] 0 #[x]).run P w = .ok v w := by
  unfold lenP at h
  cases hl : lookT T.l t with
  | none => rw [hl] at h; cases h
  | some i =>
    rw [hl] at h
    dsimp only at h
    have hk := (T.at hl).kind
    cases hb : kindLen i.kind x with
    | false => rw [hb] at h; cases h
    | true =>
      rw [hb] at h
      simp only [cond_true] at h
      generalize i.kind = k at hk hb
      cases k <;> (try (cases x <;> simp [kindLen] at hb)) <;> simp only [kindOk] at hk <;> simp only [lenOfV] at h <;> injection h with h <;> subst h
      · simp [Builtin.len_, run_underlying_ok hk, goInt]
      · simp [Builtin.len_, run_underlying_ok hk.1, goInt]

theorem fieldsOf_at {P : Program} {t : TypeId} {fs : List (Nat × Nat × Bool)} {f o sz : Nat} {ag : Bool} (h : fieldsOf P t = some fs) (hf : fs[f]? = some (o, sz, ag)) :
    ∃ fields : Array Field, P.underlying t = some (.struct fields) ∧ ∃ fd, fields[f]? = some fd ∧ fd.offset = o ∧ 0 < P.cellsOf fd.type ∧ tOk P fd.type = true ∧ P.cellsOf fd.type = sz ∧ aggB P fd.type = ag := by
  unfold fieldsOf at h
  split at h
  · rename_i fields hu
    split at h
    · rename_i hall
      injection h with h; subst h
      rw [List.getElem?_map] at hf
      cases hfd : fields.toList[f]? with
      | none => rw [hfd] at hf; cases hf
      | some fd =>
        rw [hfd] at hf
        simp at hf
        have hmem : fd ∈ fields := Array.mem_def.2 (List.mem_of_getElem? hfd)
        have := (Array.all_eq_true'.1 hall) fd hmem
        simp only [Bool.and_eq_true, Nat.blt_eq] at this
        exact ⟨fields, hu, fd, by simpa using hfd, hf.1, this.2, this.1, hf.2.1, hf.2.2⟩
    · cases h
  · cases h

theorem fieldsOf_all {P : Program} {t : TypeId} {fs : List (Nat × Nat × Bool)} (h : fieldsOf P t = some fs) :
    ∃ fields : Array Field, P.underlying t = some (.struct fields) ∧ (∀ fd ∈ fields, tOk P fd.type = true) ∧ fs = fields.toList.map fun fd => (fd.offset, P.cellsOf fd.type, aggB P fd.type) := by
  unfold fieldsOf at h
  split at h
  · rename_i fields hu
    split at h
    · rename_i hall
      injection h with h
      refine ⟨fields, hu, fun fd hfd => ?_, h.symm⟩
      have := (Array.all_eq_true'.1 hall) fd hfd
      simp only [Bool.and_eq_true] at this
      exact this.1
    · cases h
  · cases h
theorem spl_eq : ∀ (vs : List Value) (k : Nat) (us : List Value), k + us.length ≤ vs.length → spl vs k us = vs.take k ++ us ++ vs.drop (k + us.length)
  | vs, 0, us, _ => by simp [spl]
  | [], k + 1, us, h => by simp at h
  | v :: vs, k + 1, us, h => by
    simp only [spl]
    rw [spl_eq vs k us (by simp at h; omega)]
    rw [show k + 1 + us.length = (k + us.length) + 1 by omega]
    simp
theorem foldl_set : ∀ (us : List Value) (k o : Nat) (cs : Array Value), o + k + us.length ≤ cs.size →
    ((us.zipIdx k).foldl (fun cs (p : Value × Nat) => cs.setIfInBounds (o + p.2) p.1) cs).toList = cs.toList.take (o + k) ++ us ++ cs.toList.drop (o + k + us.length)
  | [], k, o, cs, _ => by simp
  | u :: us, k, o, cs, h => by
    simp only [List.zipIdx_cons, List.foldl_cons]
    simp only [List.length_cons] at h
    rw [foldl_set us (k + 1) o (cs.setIfInBounds (o + k) u) (by simp; omega)]
    simp only [Array.toList_setIfInBounds, List.length_cons]
    rw [show o + (k + 1) = o + k + 1 by omega, List.take_succ_eq_append_getElem (by simp; omega), List.take_set_of_le (by omega), List.drop_set_of_lt (by omega)]
    simp [Nat.add_comm, Nat.add_left_comm]
theorem fill_run {fs : List (Nat × Nat × Bool)} {place : Nat → Option (Nat × Nat)} (hp : ∀ i, place i = (fs[i]?).map fun x => (x.1, x.2.1)) : ∀ (l : List (Nat × Value)) (cs : Array Value) (us : List Value), buildC fs cs.toList l = some us → Instr.fill place cs l = some us.toArray
  | [], cs, us, h => by simp [buildC] at h; subst h; simp [Instr.fill]
  | (i, v) :: l, cs, us, h => by
    simp only [buildC] at h
    cases hf : fs[i]? with
    | none => rw [hf] at h; cases h
    | some x =>
      obtain ⟨o, sz, ag⟩ := x
      rw [hf] at h
      dsimp only at h
      cases hb : (Nat.beq v.cells.size sz && Nat.ble (o + sz) cs.toList.length) with
      | false => rw [hb] at h; cases h
      | true =>
        rw [hb] at h
        simp only [Bool.and_eq_true, Nat.ble_eq] at hb
        have hsz := Nat.eq_of_beq_eq_true hb.1
        simp only [cond_true] at h
        simp only [Instr.fill, hp, hf, Option.map_some]
        rw [if_neg (by simp; have := hb.2; simp at this; omega)]
        refine fill_run hp l _ us ?_
        rw [← h]
        congr 1
        have := foldl_set v.cells.toList 0 o cs (by simp; have := hb.2; simp at this; omega)
        rw [spl_eq _ _ _ (by simp; have := hb.2; simp at this; omega)]
        simp only [Nat.add_zero] at this
        rw [← this]
        rw [← Array.foldl_toList, Array.toList_zipIdx]

theorem run_mapM_fields {P : Program} {w : World} : ∀ (l : List Field), (∀ fd ∈ l, tOk P fd.type = true) → (l.mapM fun f => (do pure (f.offset, ← sizeOf f.type) : Sem (Nat × Nat))).run P w = .ok (l.map fun f => (f.offset, P.cellsOf f.type)) w
  | [], _ => rfl
  | f :: l, h => by
    rw [List.mapM_cons]
    simp only [Sem.run_bind, run_sizeOf_ok (h f (by simp)), Result.andThen_ok, Sem.run_pure, run_mapM_fields l (fun x hx => h x (by simp [hx])), List.map_cons]

theorem evalP_run {P : Program} (T : Tab P) {e : Env} {o : Oper} {v : Value} (h : evalP (lookT T.l) e o.op = some v) (w : World) : (execOp (ev e) o).run P w = .ok (.value v) w ∧ ((∀ c, o.op ≠ .defer c) ∧ ∀ cs b, o.op ≠ .select cs b) := by
  obtain ⟨dst, op, type, pos, after, guard⟩ := o
  dsimp only at h ⊢
  cases op <;> simp only [evalP] at h <;> try (cases h; done)
  case move x => injection h with h; subst h; exact ⟨rfl, by simp⟩
  case assign x => injection h with h; subst h; exact ⟨rfl, by simp⟩
  case pick c a b =>
    refine ⟨?_, by simp⟩
    split at h <;> first | (injection h with h; subst h; rename_i hc; simp [execOp, hc, asBool]) | cases h
  case nilCheck x =>
    refine ⟨?_, by simp⟩
    split at h
    · rename_i a hx; injection h with h; subst h; simp [execOp, hx]
    · cases h
  case binOp op t x y t2 =>
    refine ⟨?_, by simp⟩
    have arith : ∀ op, binP op (ev e x) (ev e y) = some v → (execOp (ev e) ⟨dst, .binOp op t x y t2, type, pos, after, guard⟩).run P w = .ok (.value v) w := by
      intro op hb
      unfold binP at hb
      split at hb
      · rename_i k a k' b hx hy
        simp only [execOp, hx, hy]
        have hgd := eqGuard_run (P := P) (op := op) (t := t) (x := x) (y := y) (a := .int k a) (b := .int k' b) (fun c d => .inl (by simp)) (by simp) w
        split at hb <;> first | (cases hb; done) | skip
        all_goals
          by_cases hkk : k = k'
          · subst hkk
            simp at hb; subst hb
            simp [hgd, Go.binOp, Op.intArith, wr_eq]
          · simp [hkk] at hb
      · cases hb
    have eqs : ∀ (neg : Bool), eqP (lookT T.l t) neg (ev e x) (ev e y) = some v → ∃ b, v = .bool (b != neg) ∧ (Op.equal t (ev e x) (ev e y)).run P w = .ok b w ∧ nilEq (ev e x) (ev e y) = some b := by
      intro neg hb
      unfold eqP at hb
      cases hl : lookT T.l t with
      | none => rw [hl] at hb; cases hb
      | some i =>
        rw [hl] at hb
        dsimp only at hb
        cases hk : kindNil i.kind (ev e x) with
        | false => rw [hk] at hb; cases hb
        | true =>
          rw [hk] at hb
          simp only [cond_true] at hb
          cases hn : nilEq (ev e x) (ev e y) with
          | none => rw [hn] at hb; cases hb
          | some b => rw [hn] at hb; injection hb with hb; exact ⟨b, hb.symm, nilEq_run (T.at hl).kind hk hn w, rfl⟩
    have nn : ∀ b, nilEq (ev e x) (ev e y) = some b → (∀ c d, ev e x ≠ .agg c ∨ ev e y ≠ .agg d) ∧ ev e x ≠ .nilIface ∧ (Go.binOp .eql t (ev e x) (ev e y) = (do pure (.bool (← Op.equal t (ev e x) (ev e y))))) ∧
        (Go.binOp .neq t (ev e x) (ev e y) = (do pure (.bool (!(← Op.equal t (ev e x) (ev e y)))))) := by
      intro b hb
      unfold nilEq at hb
      split at hb <;> first | (cases hb; done) | (rename_i hx hy; rw [hx, hy]; exact ⟨fun c d => .inl (by simp), by simp, rfl, rfl⟩)
    cases op <;> first | exact arith _ h | skip
    · obtain ⟨b, rfl, hr, hn⟩ := eqs false h
      obtain ⟨n1, n2, n3, n4⟩ := nn b hn
      simp only [execOp, Sem.run_bind, eqGuard_run n1 n2, n3, hr, Result.andThen_ok, Sem.run_pure]
      simp
    · obtain ⟨b, rfl, hr, hn⟩ := eqs true h
      obtain ⟨n1, n2, n3, n4⟩ := nn b hn
      simp only [execOp, Sem.run_bind, eqGuard_run n1 n2, n4, hr, Result.andThen_ok, Sem.run_pure]
      simp
  case unOp op t x =>
    refine ⟨?_, by simp⟩
    split at h <;> first | (injection h with h; subst h; rename_i hc; simp [execOp, hc, Op.unary]) | cases h
  case fieldAddr t x f =>
    refine ⟨?_, by simp⟩
    split at h
    · rename_i b off hx
      split at h
      · rename_i i hl
        split at h
        · rename_i fs hkk
          split at h
          · rename_i o sz ag hf
            injection h with h; subst h
            have hk := (T.at hl).kind
            rw [hkk] at hk
            obtain ⟨fields, hu, fd, hfd, ho, hsz, hok, _, _⟩ := fieldsOf_at hk hf
            simp only [execOp, hx, Instr.fieldAt, Sem.run_bind, run_underlying_ok hu, Result.andThen_ok, hfd, Instr.sureAddr, Sem.run_pure, fieldPlace, run_sizeOf_ok hok]
            rw [if_neg (by omega)]
            subst ho
            by_cases hz : fd.offset = 0
            · simp [Addr.add, hz]
            · simp [Addr.add, hz]
          · cases h
        · cases h
      · cases h
    · cases h
  case extract x i =>
    refine ⟨?_, by simp⟩
    split at h
    · rename_i vs hx; simp [execOp, hx, Instr.extract, h]
    · cases h
  case makeFunc fn first captured =>
    injection h with h; subst h
    refine ⟨?_, by simp⟩
    have e1 : ∀ a : Array Operand, (a.toList.map (ev e)).toArray = a.map (ev e) := fun a => by apply Array.ext'; simp
    rw [e1, e1]; rfl
  case build t parts =>
    refine ⟨?_, by simp⟩
    split at h
    · rename_i i hl
      split at h
      · rename_i fs hkk
        split at h
        · rename_i cs hb
          cases ha : i.agg with
          | false => rw [ha] at h; cases h
          | true =>
            rw [ha] at h
            simp at h; subst h
            have hk := (T.at hl).kind
            rw [hkk] at hk
            obtain ⟨fields, hu, hall, hfs⟩ := fieldsOf_all hk
            have hz := (T.at hl).zeroV w
            rw [ha] at hz
            simp only [mkV, cond_true] at hz
            have hm : (fields.mapM fun f => (do pure (f.offset, ← sizeOf f.type) : Sem (Nat × Nat))).run P w = .ok ((fields.toList.map fun f => (f.offset, P.cellsOf f.type)).toArray) w := by
              rw [Array.mapM_eq_mapM_toList]
              simp only [Sem.run_map, run_mapM_fields fields.toList (fun fd hfd => hall fd (by simpa using hfd)), Result.andThen_ok]
            simp only [execOp, Instr.build, Sem.run_bind, hz, Result.andThen_ok, run_underlying_ok hu, hm]
            have := fill_run (fs := fs) (place := fun k => ((fields.toList.map fun f => (f.offset, P.cellsOf f.type)).toArray)[k]?) (fun k => by
              rw [hfs]; simp [Function.comp_def]) (parts.map fun (i, x) => (i, ev e x)).toList i.zero.toArray cs (by simpa using hb)
            simp only [Value.cells, this]
            rfl
        · cases h
      · cases h
    · cases h
  case field t x f =>
    refine ⟨?_, by simp⟩
    split at h
    · rename_i cs hx
      split at h
      · rename_i i hl
        split at h
        · rename_i fs hkk
          have hk := (T.at hl).kind
          rw [hkk] at hk
          unfold fieldC at h
          split at h
          · rename_i o sz hf
            obtain ⟨fields, hu, fd, hfd, ho, hsz, hok, hc, hag⟩ := fieldsOf_at hk hf
            injection h with h; subst h
            simp only [execOp, hx, Instr.field, Sem.run_bind, run_underlying_ok hu, Result.andThen_ok, hfd, asAgg, Sem.run_pure, part, run_isAgg_ok hok, hag, if_true, run_sizeOf_ok hok, hc]
            subst ho
            congr 3
            apply Array.ext'
            simp [Array.toList_extract, List.extract_eq_take_drop]
          · rename_i o sz hf
            obtain ⟨fields, hu, fd, hfd, ho, hsz, hok, hc, hag⟩ := fieldsOf_at hk hf
            subst ho
            have h' : cs[fd.offset]? = some v := by simpa using h
            simp only [execOp, hx, Instr.field, Sem.run_bind, run_underlying_ok hu, Result.andThen_ok, hfd, asAgg, Sem.run_pure, part, run_isAgg_ok hok, hag, Bool.false_eq_true, if_false, h']
          · cases h
        · cases h
      · cases h
    · cases h
  case call c =>
    refine ⟨?_, by simp⟩
    obtain ⟨callee, args, argTypes⟩ := c
    split at h
    · rename_i x t h1 h2 h3
      dsimp only at h1 h2 h3
      subst h1
      obtain rfl : args = #[x] := by cases args; simp at h2; subst h2; rfl
      obtain rfl : argTypes = #[t] := by cases argTypes; simp at h3; subst h3; rfl
      have := lenP_run T h w
      simp only [execOp, resolve, Sem.run_bind, Sem.run_pure, Result.andThen_ok, invoke, builtin]
      have e1 : Builtin.len_ #[t] type (Array.map (ev e) #[x]) = Builtin.len_ #[t] 0 #[ev e x] := by simp [Builtin.len_]
      rw [e1, this]; rfl
    · cases h

end Go.Rz
