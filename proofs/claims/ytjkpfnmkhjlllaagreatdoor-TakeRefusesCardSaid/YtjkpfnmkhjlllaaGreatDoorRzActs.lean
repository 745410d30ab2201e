/- The rules of a walk, with the premises that prove themselves. -/
import Derived.Test.YtjkpfnmkhjlllaaGreatDoorRzSlices
set_option linter.unusedVariables false
set_option linter.unusedSimpArgs false
namespace Go.Rz
open Go.RowKit (Below)
set_option linter.unusedVariables false

section
variable {P : Program} {T : Tab P} {B : Base} {r : Option Nat} {n : Nat} {s : St} {rest todo : List St} {pd : List (Nat × List HProp)} {e : Env} {S : List HProp} {Q : Env → List HProp → Prop}

def lookPd : List (Nat × List HProp) → Nat → Option (List HProp)
  | [], _ => none
  | (i, L) :: l, j => bif Nat.beq i j then some L else lookPd l j
theorem lookPd_mem {j : Nat} {L : List HProp} : ∀ {l : List (Nat × List HProp)}, lookPd l j = some L → (j, L) ∈ l
  | (i, M) :: l, h => by
    unfold lookPd at h
    cases hb : Nat.beq i j with
    | false => rw [hb] at h; exact List.mem_cons_of_mem _ (lookPd_mem h)
    | true =>
      rw [hb] at h
      simp only [cond_true, Option.some.injEq] at h
      rw [Nat.eq_of_beq_eq_true hb, h]; exact List.mem_cons_self ..
theorem locks_c {R R' Lk : List HProp} {j : Nat} {js : List Nat} (h1 : lookPd pd j = some Lk) (h2 : Take R Lk R') (h3 : locksOk pd R js) : locksOk pd R (j :: js) := locks_cons (lookPd_mem h1) h2 h3

/-! ### What only computes -/
theorem S_val (T : Tab P) (v : Value) (hrun : ∀ w, (execOp (ev e) s.o).run P w = .ok (.value v) w) (hd : (∀ c, s.o.op ≠ .defer c) ∧ ∀ cs b, s.o.op ≠ .select cs b) (hg : wantedE e s.g = true) (hcl : Nat.beq s.cls 2 = false)
    (k : WkR T B r n rest (pdAdd s [] pd) (updO e s.o.dst v) S Q) : Wk P B r n (s :: rest) pd e S Q :=
  .float v [] S hg hcl (fun _ => rfl) .nil (OpT_run hd fun fr w hs => ⟨v, [], w, hrun w, ⟨rfl, rfl⟩, hs⟩) k.h

theorem S_ix (T : Tab P) {t : TypeId} {x y : Operand} {i : TI} {b off l cap elem esz eb : Nat} {ez : List Value} {ea : Bool} {kd : IntKind} {j : Int}
    (k : WkR T B r n rest (pdAdd s [] pd) (updO e s.o.dst (.pointer (some ⟨b, off + j.toNat * esz, none⟩))) S Q)
    (hop : s.o.op = .indexAddr t x y := by rfl) (hg : wantedE e s.g = true := by rfl) (hcl : Nat.beq s.cls 2 = false := by rfl) (ht : lookT T.l t = some i := by rfl) (hk : i.kind = .slice elem esz eb ez ea := by rfl)
    (hx : ev e x = .slice (some ⟨b, off, none⟩) l cap := by rfl) (hy : ev e y = .int kd j := by rfl) (hb : 0 ≤ j ∧ j < l := by first | omega | (dsimp only; omega) | (simp; done) | (simp at *; omega)) : Wk P B r n (s :: rest) pd e S Q := by
  refine S_val T _ (fun w => ?_) (by simp [hop]) hg hcl k
  have := (T.at ht).kind
  rw [hk] at this
  obtain ⟨h1, h2, h3, _⟩ := this
  simp only [execOp, hop, hx, hy, Instr.indexAt, asIntOf, Sem.run_bind, Sem.run_pure, Result.andThen_ok, run_underlying_ok h1, run_sizeOf_ok h2, h3]
  rw [if_pos hb]
  simp only [Sem.run_bind, run_sizeOf_ok h2, Result.andThen_ok, Sem.run_pure, h3]
  congr 5
  unfold Addr.add
  split
  · rename_i h0; simp [h0]
  · rfl

theorem S_ixA (T : Tab P) {t : TypeId} {x y : Operand} {i : TI} {b off len elem esz : Nat} {kd : IntKind} {j : Int}
    (k : WkR T B r n rest (pdAdd s [] pd) (updO e s.o.dst (.pointer (some ⟨b, off + j.toNat * esz, none⟩))) S Q)
    (hop : s.o.op = .indexAddr t x y := by rfl) (hg : wantedE e s.g = true := by rfl) (hcl : Nat.beq s.cls 2 = false := by rfl) (ht : lookT T.l t = some i := by rfl) (hk : i.kind = .array len elem esz := by rfl)
    (hx : ev e x = .pointer (some ⟨b, off, none⟩) := by rfl) (hy : ev e y = .int kd j := by rfl) (hb : 0 ≤ j ∧ j < len := by first | omega | (dsimp only; omega) | (simp; done) | (simp at *; omega)) : Wk P B r n (s :: rest) pd e S Q := by
  refine S_val T _ (fun w => ?_) (by simp [hop]) hg hcl k
  have := (T.at ht).kind
  rw [hk] at this
  obtain ⟨h1, h2, h3⟩ := this
  simp only [execOp, hop, hx, hy, Instr.indexAt, asIntOf, Sem.run_bind, Sem.run_pure, Result.andThen_ok, run_underlying_ok h1, Instr.sureAddr]
  rw [if_pos hb]
  simp only [Sem.run_bind, run_sizeOf_ok h2, Result.andThen_ok, Sem.run_pure, h3]
  congr 5
  unfold Addr.add
  split
  · rename_i h0; simp [h0]
  · rfl

/-- A byte of a text. -/
def byteAt (s : ByteArray) (n : Nat) : Int := ((s.data[n]?).getD 0).toNat
/-- A byte of a text that is met. -/
theorem S_byte (T : Tab P) {t : TypeId} {x y : Operand} {i : TI} {str : ByteArray} {kd : IntKind} {j : Int}
    (k : WkR T B r n rest (pdAdd s [] pd) (updO e s.o.dst (.int .u8 (byteAt str j.toNat))) S Q)
    (hop : s.o.op = .index t x y := by rfl) (hg : wantedE e s.g = true := by rfl) (hcl : Nat.beq s.cls 2 = false := by rfl) (ht : lookT T.l t = some i := by rfl) (hk : i.kind = .str := by rfl)
    (hx : ev e x = .string str := by rfl) (hy : ev e y = .int kd j := by rfl) (hb : 0 ≤ j ∧ j < str.size := by first | omega | (dsimp only; omega) | (simp; done) | (simp at *; omega)) : Wk P B r n (s :: rest) pd e S Q := by
  refine S_val T _ (fun w => ?_) (by simp [hop]) hg hcl k
  have := (T.at ht).kind
  rw [hk] at this
  simp only [execOp, hop, hx, hy, Instr.index, asIntOf, Sem.run_bind, Sem.run_pure, Result.andThen_ok, run_underlying_ok this]
  have h2 : j.toNat < str.size := by omega
  rw [if_pos hb.1, getElem?_pos str j.toNat h2]
  have h3 : byteAt str j.toNat = ((str[j.toNat]'h2).toNat : Int) := by
    unfold byteAt
    rw [getElem?_pos str.data j.toNat h2]; rfl
  rw [h3]
  rfl

/-! ### Comparisons -/
theorem A_cmp (T : Tab P) {op : BinOp} {t t2 : TypeId} {x y : Operand} {c : Prop} 
    (htr : c → WkR T B r n rest pd (updO e s.o.dst (.bool true)) S Q) (hfa : ¬ c → WkR T B r n rest pd (updO e s.o.dst (.bool false)) S Q)
    (hop : s.o.op = .binOp op t x y t2 := by rfl) (hg : wantedE e s.g = true := by rfl) (hcl : (s.keep || Nat.beq s.cls 2) = false := by rfl)
    (hc : cmpQ op (ev e x) (ev e y) = some c := by rfl) (hk : sameKind (ev e x) (ev e y) = true := by rfl) : Wk P B r n (s :: rest) pd e S Q :=
  S_cmp T hop hg hcl hc hk htr hfa
theorem A_skip (T : Tab P) (k : WkR T B r n rest (pdAdd s [] pd) (updO e s.o.dst undef) S Q) (hg : wantedE e s.g = false := by rfl) : Wk P B r n (s :: rest) pd e S Q := S_skip T hg k

/-! ### Loads -/
theorem A_ld (T : Tab P) {t : TypeId} {x : Operand} {i : TI} {b off q : Nat} {F : HProp} {R : List HProp} {vs us : List Value} (hr : RdF B F b off vs)
    (k : WkR T B r n rest (pdAdd s [F] pd) (updO e s.o.dst (mkV i.agg us)) S Q)
    (hop : s.o.op = .load t x := by rfl) (hg : wantedE e s.g = true := by rfl) (hcl : Nat.beq s.cls 2 = false := by rfl) (hp0 : Nat.beq s.cls 0 = false := by rfl)
    (ht : lookT T.l t = some i := by rfl) (h1 : (i.agg || Nat.beq i.sz 1) = true := by rfl) (hx : ev e x = .pointer (some ⟨b, q, none⟩) := by rfl) (hp : Pick S F R := by with_reducible first | exact pk0 | exact pk1 | exact pk2 | exact pk3 | exact pk4 | exact pk5 | exact pk6 | exact pk7 | exact pk8 | exact pk9 | exact pk10 | exact pk11 | exact pk12 | exact pk13 | exact pk14 | exact pk15 | exact pk16 | exact pk17 | exact pk18 | exact pk19 | exact pk20 | exact pk21 | exact pk22 | exact pk23) (hv : cut vs off q i.sz = some us := by rfl) : Wk P B r n (s :: rest) pd e S Q :=
  S_load T hop hg hcl hp0 ht h1 hx hp hr hv k
theorem A_ldPts (T : Tab P) {t : TypeId} {x : Operand} {i : TI} {b off q : Nat} {R : List HProp} {vs us : List Value}
    (k : WkR T B r n rest (pdAdd s [pts b off vs] pd) (updO e s.o.dst (mkV i.agg us)) S Q)
    (hop : s.o.op = .load t x := by rfl) (hg : wantedE e s.g = true := by rfl) (hcl : Nat.beq s.cls 2 = false := by rfl) (hp0 : Nat.beq s.cls 0 = false := by rfl)
    (ht : lookT T.l t = some i := by rfl) (h1 : (i.agg || Nat.beq i.sz 1) = true := by rfl) (hx : ev e x = .pointer (some ⟨b, q, none⟩) := by rfl) (hp : Pick S (pts b off vs) R := by with_reducible first | exact pk0 | exact pk1 | exact pk2 | exact pk3 | exact pk4 | exact pk5 | exact pk6 | exact pk7 | exact pk8 | exact pk9 | exact pk10 | exact pk11 | exact pk12 | exact pk13 | exact pk14 | exact pk15 | exact pk16 | exact pk17 | exact pk18 | exact pk19 | exact pk20 | exact pk21 | exact pk22 | exact pk23) (hv : cut vs off q i.sz = some us := by rfl) : Wk P B r n (s :: rest) pd e S Q :=
  S_loadPts T hop hg hcl hp0 ht h1 hx hp hv k

/-- An element, or a part of it. -/
theorem A_ldE {α : Type} {enc : α → List Value} {esz : Nat} (T : Tab P) {t : TypeId} {x : Operand} {i : TI} {b off q m d : Nat} {F : HProp} {R : List HProp} {l : List α} {us : List Value} {a : α} (u : Uni enc esz) (hr : RdF B F b off (flat enc l))
    (hk : l[m]? = some a) (k : WkR T B r n rest (pdAdd s [F] pd) (updO e s.o.dst (mkV i.agg us)) S Q) (hq : q = off + m * esz + d)
    (hop : s.o.op = .load t x) (hg : wantedE e s.g = true) (hcl : Nat.beq s.cls 2 = false) (hp0 : Nat.beq s.cls 0 = false)
    (ht : lookT T.l t = some i) (h1 : (i.agg || Nat.beq i.sz 1) = true) (hx : ev e x = .pointer (some ⟨b, q, none⟩)) (hp : Pick S F R) (hv : cut (enc a) 0 d i.sz = some us) : Wk P B r n (s :: rest) pd e S Q := by
  subst hq
  obtain ⟨hl, hc⟩ := cut_spec hv
  refine .float (mkV i.agg us) [F] R hg hcl (fun h => by rw [h] at hp0; cases hp0) (.cons hp .nil) (OpT_run (by simp [hop]) fun fr w hs => ⟨_, [F], w, ?_, ⟨rfl, rfl⟩, hs⟩) k.h
  have := run_loadVar_ok (P := P) (w := w) (T.at ht) (b := b) (off := off + m * esz + d) hl (fun ha => by rw [ha] at h1; simpa using h1) (fun j v hj => by
    obtain ⟨c1, c2⟩ := hc j v hj
    have := hr w fr hs _ _ (flat_get u hk c1)
    simpa [Nat.add_assoc] using this)
  simp [execOp, hop, Instr.loadAt, hx, Instr.sureAddr, this]

/-! ### Stores -/
theorem A_store (T : Tab P) {t : TypeId} {x y : Operand} {i : TI} {b off q : Nat} {R : List HProp} {vs us ws : List Value} {v : Value}
    (k : WkR T B r n rest pd e (pts b off ws :: R) Q)
    (hop : s.o.op = .store t x y := by rfl) (hd : s.o.dst = none := by rfl) (hg : wantedE e s.g = true := by rfl) (hcl : Nat.ble 2 s.cls = true := by rfl)
    (ht : lookT T.l t = some i := by rfl) (hx : ev e x = .pointer (some ⟨b, q, none⟩) := by rfl) (hy : ev e y = v := by rfl) (hu : v.cells.toList = us := by rfl) (hp : Pick S (pts b off vs) R := by with_reducible first | exact pk0 | exact pk1 | exact pk2 | exact pk3 | exact pk4 | exact pk5 | exact pk6 | exact pk7 | exact pk8 | exact pk9 | exact pk10 | exact pk11 | exact pk12 | exact pk13 | exact pk14 | exact pk15 | exact pk16 | exact pk17 | exact pk18 | exact pk19 | exact pk20 | exact pk21 | exact pk22 | exact pk23) (hl : locksOk pd R s.locks := by (repeat (first | exact locks_nil | refine locks_c rfl (by (repeat (first | exact Take.nil | with_reducible apply tk0 | with_reducible apply tk1 | with_reducible apply tk2 | with_reducible apply tk3 | with_reducible apply tk4 | with_reducible apply tk5 | with_reducible apply tk6 | with_reducible apply tk7 | with_reducible apply tk8 | with_reducible apply tk9 | with_reducible apply tk10 | with_reducible apply tk11 | with_reducible apply tk12 | with_reducible apply tk13 | with_reducible apply tk14 | with_reducible apply tk15 | with_reducible apply tk16 | with_reducible apply tk17 | with_reducible apply tk18 | with_reducible apply tk19 | with_reducible apply tk20 | with_reducible apply tk21 | with_reducible apply tk22 | with_reducible apply tk23 | apply tk0 | apply tk1 | apply tk2 | apply tk3 | apply tk4 | apply tk5 | apply tk6 | apply tk7 | apply tk8 | apply tk9 | apply tk10 | apply tk11 | apply tk12 | apply tk13 | apply tk14 | apply tk15 | apply tk16 | apply tk17 | apply tk18 | apply tk19 | apply tk20 | apply tk21 | apply tk22 | apply tk23)); (first | done | fail)) ?_)); (first | done | fail))
    (hb : (Nat.ble off q && Nat.ble (q - off + i.sz) vs.length) = true := by rfl) (hlen : Nat.beq us.length i.sz = true := by rfl) (ho : us.all one = true := by rfl) (hw : splice vs (q - off) us = ws := by rfl) : Wk P B r n (s :: rest) pd e S Q :=
  S_store T hop hd hg hcl ht hx hy hu hp hl hb hlen ho hw k

/-! ### Calls -/
theorem A_call (T : Tab P) {f : FuncId} {args : Array Operand} {ats : Array TypeId} {vals : List Value} {A R : List HProp} {φ : Prop} {Ps : Value → List HProp → Prop} (hfn : IsFn P f) (h : φ → Fn P B f vals A Ps) (hφ : φ)
    (k : ∀ v L, Ps v L → WkR T B r n rest pd (updO e s.o.dst v) (L ++ R) Q)
    (hop : s.o.op = .call ⟨.value (.func f), args, ats⟩ := by rfl) (hg : wantedE e s.g = true := by rfl) (hcl : Nat.ble 2 s.cls = true := by rfl)
    (ha : args.toList.map (ev e) = vals := by rfl) (ht : Take S A R := by (repeat (first | exact Take.nil | with_reducible apply tk0 | with_reducible apply tk1 | with_reducible apply tk2 | with_reducible apply tk3 | with_reducible apply tk4 | with_reducible apply tk5 | with_reducible apply tk6 | with_reducible apply tk7 | with_reducible apply tk8 | with_reducible apply tk9 | with_reducible apply tk10 | with_reducible apply tk11 | with_reducible apply tk12 | with_reducible apply tk13 | with_reducible apply tk14 | with_reducible apply tk15 | with_reducible apply tk16 | with_reducible apply tk17 | with_reducible apply tk18 | with_reducible apply tk19 | with_reducible apply tk20 | with_reducible apply tk21 | with_reducible apply tk22 | with_reducible apply tk23 | apply tk0 | apply tk1 | apply tk2 | apply tk3 | apply tk4 | apply tk5 | apply tk6 | apply tk7 | apply tk8 | apply tk9 | apply tk10 | apply tk11 | apply tk12 | apply tk13 | apply tk14 | apply tk15 | apply tk16 | apply tk17 | apply tk18 | apply tk19 | apply tk20 | apply tk21 | apply tk22 | apply tk23)); (first | done | fail)) (hl : locksOk pd R s.locks := by (repeat (first | exact locks_nil | refine locks_c rfl (by (repeat (first | exact Take.nil | with_reducible apply tk0 | with_reducible apply tk1 | with_reducible apply tk2 | with_reducible apply tk3 | with_reducible apply tk4 | with_reducible apply tk5 | with_reducible apply tk6 | with_reducible apply tk7 | with_reducible apply tk8 | with_reducible apply tk9 | with_reducible apply tk10 | with_reducible apply tk11 | with_reducible apply tk12 | with_reducible apply tk13 | with_reducible apply tk14 | with_reducible apply tk15 | with_reducible apply tk16 | with_reducible apply tk17 | with_reducible apply tk18 | with_reducible apply tk19 | with_reducible apply tk20 | with_reducible apply tk21 | with_reducible apply tk22 | with_reducible apply tk23 | apply tk0 | apply tk1 | apply tk2 | apply tk3 | apply tk4 | apply tk5 | apply tk6 | apply tk7 | apply tk8 | apply tk9 | apply tk10 | apply tk11 | apply tk12 | apply tk13 | apply tk14 | apply tk15 | apply tk16 | apply tk17 | apply tk18 | apply tk19 | apply tk20 | apply tk21 | apply tk22 | apply tk23)); (first | done | fail)) ?_)); (first | done | fail)) : Wk P B r n (s :: rest) pd e S Q :=
  S_call T hfn hop hg hcl h ha ht hφ hl k

/-! ### New memory -/
theorem A_box (T : Tab P) {t : TypeId} {x : Operand} {v : Value} {us : List Value} (k : ∀ b, WkR T B r n rest pd (updO e s.o.dst (.pointer (some ⟨b, 0, none⟩))) (pts b 0 us :: S) Q)
    (hop : s.o.op = .box t x := by rfl) (hg : wantedE e s.g = true := by rfl) (hcl : Nat.ble 2 s.cls = true := by rfl) (hx : ev e x = v := by rfl) (hu : v.cells.toList = us := by rfl) (hl : locksOk pd S s.locks := by (repeat (first | exact locks_nil | refine locks_c rfl (by (repeat (first | exact Take.nil | with_reducible apply tk0 | with_reducible apply tk1 | with_reducible apply tk2 | with_reducible apply tk3 | with_reducible apply tk4 | with_reducible apply tk5 | with_reducible apply tk6 | with_reducible apply tk7 | with_reducible apply tk8 | with_reducible apply tk9 | with_reducible apply tk10 | with_reducible apply tk11 | with_reducible apply tk12 | with_reducible apply tk13 | with_reducible apply tk14 | with_reducible apply tk15 | with_reducible apply tk16 | with_reducible apply tk17 | with_reducible apply tk18 | with_reducible apply tk19 | with_reducible apply tk20 | with_reducible apply tk21 | with_reducible apply tk22 | with_reducible apply tk23 | apply tk0 | apply tk1 | apply tk2 | apply tk3 | apply tk4 | apply tk5 | apply tk6 | apply tk7 | apply tk8 | apply tk9 | apply tk10 | apply tk11 | apply tk12 | apply tk13 | apply tk14 | apply tk15 | apply tk16 | apply tk17 | apply tk18 | apply tk19 | apply tk20 | apply tk21 | apply tk22 | apply tk23)); (first | done | fail)) ?_)); (first | done | fail)) : Wk P B r n (s :: rest) pd e S Q :=
  S_box T hop hg hcl hx hu hl k
theorem A_alloc (T : Tab P) {t : TypeId} {i : TI} (k : ∀ b, WkR T B r n rest pd (updO e s.o.dst (.pointer (some ⟨b, 0, none⟩))) (pts b 0 i.zero :: S) Q)
    (hop : s.o.op = .alloc t := by rfl) (hg : wantedE e s.g = true := by rfl) (hcl : Nat.ble 2 s.cls = true := by rfl) (ht : lookT T.l t = some i := by rfl) (hz : (mkV i.agg i.zero).cells.toList = i.zero := by rfl) (hl : locksOk pd S s.locks := by (repeat (first | exact locks_nil | refine locks_c rfl (by (repeat (first | exact Take.nil | with_reducible apply tk0 | with_reducible apply tk1 | with_reducible apply tk2 | with_reducible apply tk3 | with_reducible apply tk4 | with_reducible apply tk5 | with_reducible apply tk6 | with_reducible apply tk7 | with_reducible apply tk8 | with_reducible apply tk9 | with_reducible apply tk10 | with_reducible apply tk11 | with_reducible apply tk12 | with_reducible apply tk13 | with_reducible apply tk14 | with_reducible apply tk15 | with_reducible apply tk16 | with_reducible apply tk17 | with_reducible apply tk18 | with_reducible apply tk19 | with_reducible apply tk20 | with_reducible apply tk21 | with_reducible apply tk22 | with_reducible apply tk23 | apply tk0 | apply tk1 | apply tk2 | apply tk3 | apply tk4 | apply tk5 | apply tk6 | apply tk7 | apply tk8 | apply tk9 | apply tk10 | apply tk11 | apply tk12 | apply tk13 | apply tk14 | apply tk15 | apply tk16 | apply tk17 | apply tk18 | apply tk19 | apply tk20 | apply tk21 | apply tk22 | apply tk23)); (first | done | fail)) ?_)); (first | done | fail)) : Wk P B r n (s :: rest) pd e S Q :=
  S_alloc T hop hg hcl ht hz hl k

/-- The parts of a slice that is written out. -/
def joinC (esz : Nat) (e : Env) : List (Nat × Operand) → Nat → Option (List Value)
  | [], _ => some []
  | (i, x) :: l, k => bif Nat.beq i k && Nat.beq (ev e x).cells.size esz then (joinC esz e l (k + 1)).map fun us => (ev e x).cells.toList ++ us else none

theorem foldl_setM : ∀ (us : List Value) (k o : Nat) (cs : Array Value), o + k + us.length ≤ cs.size →
    ((us.zipIdx k).foldl (fun cs (x : Value × Nat) => cs.setIfInBounds (o + x.2) x.1) cs).toList = cs.toList.take (o + k) ++ us ++ cs.toList.drop (o + k + us.length) := foldl_set

theorem fillS_run {esz : Nat} {e : Env} : ∀ (l : List (Nat × Operand)) (k : Nat) (pre zs us : List Value), pre.length = k * esz → zs.length = l.length * esz → joinC esz e l k = some us →
    ∀ cs : Array Value, cs.toList = pre ++ zs → Instr.fill (fun i => some (i * esz, esz)) cs (l.map fun (i, x) => (i, ev e x)) = some (pre ++ us).toArray := by
  intro l
  induction l with
  | nil =>
    intro k pre zs us hp hz hj cs hc
    simp only [joinC, Option.some.injEq] at hj; subst hj
    have : zs = [] := by simpa using hz
    subst this
    simp only [List.map_nil, Instr.fill, Option.some.injEq, List.append_nil] at hc ⊢
    rw [← hc]
  | cons x l ih =>
    obtain ⟨i, x⟩ := x
    intro k pre zs us hp hz hj cs hc
    simp only [joinC] at hj
    cases hb : (Nat.beq i k && Nat.beq (ev e x).cells.size esz) with
    | false => rw [hb] at hj; cases hj
    | true =>
      rw [hb] at hj
      simp only [Bool.and_eq_true, Nat.beq_eq] at hb
      obtain ⟨rfl, hsz⟩ := hb
      simp only [cond_true] at hj
      cases hj' : joinC esz e l (i + 1) with
      | none => rw [hj'] at hj; cases hj
      | some us' =>
        rw [hj'] at hj
        simp only [Option.map_some, Option.some.injEq] at hj; subst hj
        simp only [List.length_cons, Nat.add_mul, Nat.one_mul] at hz
        have hcs : cs.size = pre.length + zs.length := by rw [← Array.length_toList, hc, List.length_append]
        have hvs : (ev e x).cells.toList.length = esz := by simpa using hsz
        simp only [List.map_cons, Instr.fill]
        rw [if_neg (by simp [hsz]; omega)]
        have hf := foldl_set (ev e x).cells.toList 0 (i * esz) cs (by omega)
        have := ih (i + 1) (pre ++ (ev e x).cells.toList) (zs.drop esz) us' (by simp [hp, hsz, Nat.add_mul]) (by simp; omega) hj' ((ev e x).cells.zipIdx.foldl (fun cs (c, j) => cs.setIfInBounds (i * esz + j) c) cs) (by
          have hz' : (ev e x).cells.zipIdx.toList = (ev e x).cells.toList.zipIdx := by simp
          rw [← Array.foldl_toList, hz', hf, hc, hvs, Nat.add_zero, ← hp]
          rw [List.take_left', List.drop_append]
          · simp
          · rfl)
        rw [this]
        simp

theorem A_mk (T : Tab P) {t : TypeId} {len : Nat} {parts : Array (Nat × Operand)} {i : TI} {elem esz eb : Nat} {ez us : List Value} {ea : Bool}
    (k : ∀ b, WkR T B r n rest pd (updO e s.o.dst (.slice (some ⟨b, 0, none⟩) len len)) (sl (some ⟨b, 0, none⟩) len len esz us :: S) Q)
    (hop : s.o.op = .buildSlice t len parts := by rfl) (hg : wantedE e s.g = true := by rfl) (hcl : Nat.ble 2 s.cls = true := by rfl) (ht : lookT T.l t = some i := by rfl) (hk : i.kind = .slice elem esz eb ez ea := by rfl)
    (hj : joinC esz e parts.toList 0 = some us := by rfl) (hlen : Nat.beq parts.toList.length len = true := by rfl) (hsm : Nat.ble (len * esz) 16777216 = true := by rfl) (hl : locksOk pd S s.locks := by (repeat (first | exact locks_nil | refine locks_c rfl (by (repeat (first | exact Take.nil | with_reducible apply tk0 | with_reducible apply tk1 | with_reducible apply tk2 | with_reducible apply tk3 | with_reducible apply tk4 | with_reducible apply tk5 | with_reducible apply tk6 | with_reducible apply tk7 | with_reducible apply tk8 | with_reducible apply tk9 | with_reducible apply tk10 | with_reducible apply tk11 | with_reducible apply tk12 | with_reducible apply tk13 | with_reducible apply tk14 | with_reducible apply tk15 | with_reducible apply tk16 | with_reducible apply tk17 | with_reducible apply tk18 | with_reducible apply tk19 | with_reducible apply tk20 | with_reducible apply tk21 | with_reducible apply tk22 | with_reducible apply tk23 | apply tk0 | apply tk1 | apply tk2 | apply tk3 | apply tk4 | apply tk5 | apply tk6 | apply tk7 | apply tk8 | apply tk9 | apply tk10 | apply tk11 | apply tk12 | apply tk13 | apply tk14 | apply tk15 | apply tk16 | apply tk17 | apply tk18 | apply tk19 | apply tk20 | apply tk21 | apply tk22 | apply tk23)); (first | done | fail)) ?_)); (first | done | fail)) : Wk P B r n (s :: rest) pd e S Q := by
  have hlen' : parts.toList.length = len := Nat.eq_of_beq_eq_true hlen
  have hsm' : len * esz ≤ 16777216 := by simpa using hsm
  have hkd := (T.at ht).kind
  rw [hk] at hkd
  obtain ⟨h1, h2, h3, h4, h5, h6, h7⟩ := hkd
  have hul : us.length = len * esz := by
    have : ∀ (l : List (Nat × Operand)) (k : Nat) (us : List Value), joinC esz e l k = some us → us.length = l.length * esz := by
      intro l
      induction l with
      | nil => intro k us h; simp only [joinC, Option.some.injEq] at h; subst h; simp
      | cons x l ih =>
        intro k us h
        simp only [joinC] at h
        cases hb : (Nat.beq x.1 k && Nat.beq (ev e x.2).cells.size esz) with
        | false => rw [hb] at h; cases h
        | true =>
          rw [hb] at h
          simp only [cond_true, Option.map_eq_some_iff] at h
          obtain ⟨us', h', rfl⟩ := h
          simp only [Bool.and_eq_true, Nat.beq_eq] at hb
          simp [ih _ _ h', hb.2, Nat.add_mul, Nat.add_comm]
    rw [this _ _ _ hj, hlen']
  refine .anchor [] S (fun v L => ∃ b, v = .slice (some ⟨b, 0, none⟩) len len ∧ L = [sl (some ⟨b, 0, none⟩) len len esz us]) hg hcl .nil (OpT_run (by simp [hop]) fun fr w hs => ?_) hl ?_
  · refine ⟨_, _, w.alloc (.cells us.toArray elem), ?_, ⟨w.heap.size, rfl, rfl⟩, ?_⟩
    · have hfill : ∀ zero : Array Value, _ := fun zero => fillS_run (esz := esz) (e := e) parts.toList 0 [] ((List.range (len * esz)).map (zero[· % zero.size]!)) us (by simp) (by simp [← hlen']) hj ((Array.range (len * esz)).map (zero[· % zero.size]!)) (by simp)
      have hparts : (parts.map fun (i, x) => (i, ev e x)).toList = parts.toList.map fun (i, x) => (i, ev e x) := by simp
      simp only [execOp, hop, Instr.buildSlice, Sem.run_bind, run_underlying_ok h1, Result.andThen_ok, run_sizeOf_ok h2, h3]
      rw [if_neg (by omega)]
      by_cases h0 : len * esz = 0
      · rw [if_pos h0, hparts]
        simp only [Sem.run_bind, Sem.run_pure, Result.andThen_ok, hfill, List.nil_append, newRow, run_newObj]
        rfl
      · rw [if_neg h0, hparts]
        simp only [Sem.run_bind, run_zero_ok h5, Sem.run_pure, Result.andThen_ok, hfill, List.nil_append, newRow, run_newObj]
        rfl
    · have := hs.alloc us.toArray elem
      refine this.mono fun h H => seps_cons_mono (fun _ => seps_tail) (seps_head_mono (fun g hg => ⟨hul, .inr ⟨_, _, rfl, Nat.le_refl _⟩, fun b' off' e' => ?_⟩) H)
      simp only [Option.some.injEq, Addr.mk.injEq] at e'
      obtain ⟨rfl, rfl, _⟩ := e'
      exact ⟨[], by simp, by simpa using hg⟩
  · rintro v L ⟨b, rfl, rfl⟩; exact (k b).h

theorem A_max (T : Tab P) {x y : Operand} {t1 t2 : TypeId} {kd kd2 : IntKind} {a b : Int} (k : WkR T B r n rest (pdAdd s [] pd) (updO e s.o.dst (.int kd (max a b))) S Q)
    (hop : s.o.op = .call ⟨.builtin .max, #[x, y], #[t1, t2]⟩ := by rfl) (hg : wantedE e s.g = true := by rfl) (hcl : Nat.beq s.cls 2 = false := by rfl) (hx : ev e x = .int kd a := by rfl) (hy : ev e y = .int kd2 b := by rfl) : Wk P B r n (s :: rest) pd e S Q := by
  refine S_val T _ (fun w => ?_) (by simp [hop]) hg hcl k
  have e1 : (Array.map (ev e) #[x, y]).toList = [.int kd a, .int kd2 b] := by simp [hx, hy]
  simp only [execOp, hop, resolve, Sem.run_bind, Sem.run_pure, Result.andThen_ok, invoke, builtin, Builtin.max_, e1, List.foldlM, Builtin.max2]
  have : (if b > a then b else a) = max a b := by split <;> omega
  rw [this]
theorem A_min (T : Tab P) {x y : Operand} {t1 t2 : TypeId} {kd kd2 : IntKind} {a b : Int} (k : WkR T B r n rest (pdAdd s [] pd) (updO e s.o.dst (.int kd (min a b))) S Q)
    (hop : s.o.op = .call ⟨.builtin .min, #[x, y], #[t1, t2]⟩ := by rfl) (hg : wantedE e s.g = true := by rfl) (hcl : Nat.beq s.cls 2 = false := by rfl) (hx : ev e x = .int kd a := by rfl) (hy : ev e y = .int kd2 b := by rfl) : Wk P B r n (s :: rest) pd e S Q := by
  refine S_val T _ (fun w => ?_) (by simp [hop]) hg hcl k
  have e1 : (Array.map (ev e) #[x, y]).toList = [.int kd a, .int kd2 b] := by simp [hx, hy]
  simp only [execOp, hop, resolve, Sem.run_bind, Sem.run_pure, Result.andThen_ok, invoke, builtin, Builtin.min_, e1, List.foldlM, Builtin.min2]
  have : (if b < a then b else a) = min a b := by split <;> omega
  rw [this]

/-- An array that is written out whole. -/
theorem A_arr (T : Tab P) {t : TypeId} {parts : Array (Nat × Operand)} {i : TI} {len elem esz : Nat} {us : List Value} (k : WkR T B r n rest (pdAdd s [] pd) (updO e s.o.dst (.agg us.toArray)) S Q)
    (hop : s.o.op = .build t parts := by rfl) (hg : wantedE e s.g = true := by rfl) (hcl : Nat.beq s.cls 2 = false := by rfl) (ht : lookT T.l t = some i := by rfl) (hk : i.kind = .array len elem esz := by rfl) (ha : i.agg = true := by rfl) (hz : Nat.beq i.sz (len * esz) = true := by rfl)
    (hj : joinC esz e parts.toList 0 = some us := by rfl) (hlen : Nat.beq parts.toList.length len = true := by rfl) : Wk P B r n (s :: rest) pd e S Q := by
  have hlen' : parts.toList.length = len := Nat.eq_of_beq_eq_true hlen
  have hz' : i.sz = len * esz := Nat.eq_of_beq_eq_true hz
  refine S_val T _ (fun w => ?_) (by simp [hop]) hg hcl k
  have hT := T.at ht
  have hkd := hT.kind
  rw [hk] at hkd
  obtain ⟨h1, h2, h3⟩ := hkd
  have hzv := hT.zeroV w
  rw [ha] at hzv
  simp only [mkV, cond_true] at hzv
  have hfill := fillS_run (esz := esz) (e := e) parts.toList 0 [] i.zero us (by simp) (by rw [hT.len, hz', hlen']) hj i.zero.toArray (by simp)
  have hparts : (parts.map fun (i, x) => (i, ev e x)).toList = parts.toList.map fun (i, x) => (i, ev e x) := by simp
  simp only [execOp, hop, Instr.build, Sem.run_bind, hzv, Result.andThen_ok, run_underlying_ok h1, run_sizeOf_ok h2, h3, Value.cells]
  rw [hparts, hfill]
  simp

/-! ### append -/
theorem tiOf {t e esz eb : Nat} {ez : List Value} {ea : Bool} (hzz : Nat.beq (mkV ea ez).cells.size esz = true) (h : kindOk P t (.slice e esz eb ez ea)) : P.underlying t = some (.slice e) ∧ ∃ ti z, P.info? e = some ti ∧ ti.zero = some z ∧ z.cells.size = ti.size ∧ ti.size = esz ∧ ti.bytes = eb := by
  obtain ⟨h1, h2, h3, h4, h5, h6, h7⟩ := h
  refine ⟨h1, ?_⟩
  cases hi : P.info? e with
  | none => rw [hi] at h5; cases h5
  | some ti =>
    rw [hi] at h5
    simp only [Option.map_some, Option.some.injEq] at h5
    have hs : ti.size = esz := by simpa [Program.cellsOf, hi] using h3
    have hb : ti.bytes = eb := by simpa [Program.bytesOf, hi] using h4
    refine ⟨ti, _, rfl, h5, ?_, hs, hb⟩
    rw [hs]
    exact Nat.eq_of_beq_eq_true hzz

theorem Src_sl {a : Option Addr} {m c esz : Nat} {us : List Value} (h : wf a m c) : Src B (sl a m c esz us) a m us := by
  rcases h with ⟨_, h, _⟩ | ⟨b, off, rfl, _⟩
  · exact .inl h
  · exact .inr ⟨b, off, rfl, RdF_sl⟩

theorem OpT_app (T : Tab P) {o : Oper} {t : TypeId} {x y : Operand} {i : TI} {a a2 : Option Addr} {l cap m c elem esz eb : Nat} {ez us news : List Value} {ea : Bool} {F : HProp} (hsrc : Src B F a2 m news) (hnl : ∀ w R, Sat B w (F :: R) → news.length = m * esz) (h1 : news.all one = true)
    (hb : l + m ≤ 281474976710656 ∧ (l + m) * eb ≤ 140737488355328)
    (hop : o.op = .call ⟨.builtin .append, #[x, y], #[t, t]⟩) (ht : lookT T.l t = some i) (hk : i.kind = .slice elem esz eb ez ea) (hsz : Nat.ble 1 esz = true) (hzz : Nat.beq (mkV ea ez).cells.size esz = true)
    (hx : ev e x = .slice a l cap) (hy : ev e y = .slice a2 m c) : OpT P B r n o e [sl a l cap esz us, F] (fun v L => ∃ a' cap', wf a' (l + m) cap' ∧ v = .slice a' (l + m) cap' ∧ L = [sl a' (l + m) cap' esz (us ++ news), F]) := by
  have hkd := (T.at ht).kind
  rw [hk] at hkd
  obtain ⟨hu, ti, z, hi, hz, hzs, rfl, rfl⟩ := tiOf hzz hkd
  refine OpT_run (by simp [hop]) fun fr w hs => ?_
  obtain ⟨a', cap', w', h2, h3, h4⟩ := append_run (P := P) (ty := o.type) hu hi hz hzs (Nat.le_of_ble_eq_true hsz) hs hsrc (hnl w _ (hs.mono fun h => seps_swap)) h1 (c := c) (by simp only [maxLen]; omega) hb.2
  refine ⟨_, _, w', ?_, ⟨a', cap', h3, rfl, rfl⟩, h4⟩
  simp only [execOp, hop, resolve, Sem.run_bind, Sem.run_pure, Result.andThen_ok, invoke, builtin]
  have e1 : Array.map (ev e) #[x, y] = #[.slice a l cap, .slice a2 m c] := by simp [hx, hy]
  rw [e1, h2]; rfl

theorem A_appF (T : Tab P) {t : TypeId} {x y : Operand} {i : TI} {a a2 : Option Addr} {l cap m c elem esz eb : Nat} {ez us news : List Value} {ea : Bool} {F : HProp} {R : List HProp} (hsrc : Src B F a2 m news) (hnl : ∀ w R, Sat B w (F :: R) → news.length = m * esz) (h1 : news.all one = true)
    (hb : l + m ≤ 281474976710656 ∧ (l + m) * eb ≤ 140737488355328)
    (k : ∀ a' cap', wf a' (l + m) cap' → WkR T B r n rest pd (updO e s.o.dst (.slice a' (l + m) cap')) (sl a' (l + m) cap' esz (us ++ news) :: F :: R) Q)
    (hop : s.o.op = .call ⟨.builtin .append, #[x, y], #[t, t]⟩) (hg : wantedE e s.g = true) (hcl : Nat.ble 2 s.cls = true) (ht : lookT T.l t = some i) (hk : i.kind = .slice elem esz eb ez ea) (hsz : Nat.ble 1 esz = true) (hzz : Nat.beq (mkV ea ez).cells.size esz = true)
    (hx : ev e x = .slice a l cap) (hy : ev e y = .slice a2 m c) (hp : Take S [sl a l cap esz us, F] R) (hl : locksOk pd R s.locks) : Wk P B r n (s :: rest) pd e S Q := by
  refine .anchor [sl a l cap esz us, F] R (fun v L => ∃ a' cap', wf a' (l + m) cap' ∧ v = .slice a' (l + m) cap' ∧ L = [sl a' (l + m) cap' esz (us ++ news), F]) hg hcl hp (OpT_app T hsrc hnl h1 hb hop ht hk hsz hzz hx hy) hl ?_
  rintro v L ⟨a', cap', hw, rfl, rfl⟩; exact (k a' cap' hw).h

theorem A_appNilF (T : Tab P) {t : TypeId} {x y : Operand} {i : TI} {a2 : Option Addr} {m c elem esz eb : Nat} {ez news : List Value} {ea : Bool} {F : HProp} {R : List HProp} (hsrc : Src B F a2 m news) (hnl : ∀ w R, Sat B w (F :: R) → news.length = m * esz) (h1 : news.all one = true)
    (hb : m ≤ 281474976710656 ∧ m * eb ≤ 140737488355328)
    (k : ∀ a' cap', wf a' m cap' → WkR T B r n rest pd (updO e s.o.dst (.slice a' m cap')) (sl a' m cap' esz news :: F :: R) Q)
    (hop : s.o.op = .call ⟨.builtin .append, #[x, y], #[t, t]⟩) (hg : wantedE e s.g = true) (hcl : Nat.ble 2 s.cls = true) (ht : lookT T.l t = some i) (hk : i.kind = .slice elem esz eb ez ea) (hsz : Nat.ble 1 esz = true) (hzz : Nat.beq (mkV ea ez).cells.size esz = true)
    (hx : ev e x = .slice none 0 0) (hy : ev e y = .slice a2 m c) (hp : Pick S F R) (hl : locksOk pd R s.locks) : Wk P B r n (s :: rest) pd e S Q := by
  refine .anchor [F] R (fun v L => ∃ a' cap', wf a' m cap' ∧ v = .slice a' m cap' ∧ L = [sl a' m cap' esz news, F]) hg hcl (.cons hp .nil) ?_ hl ?_
  · have := OpT_app (P := P) (B := B) (r := r) (n := n) (us := []) T hsrc hnl h1 (by simpa using hb) hop ht hk hsz hzz hx hy
    rw [Nat.zero_add] at this
    intro fr w hs
    exact this fr w (hs.mono fun h H => ⟨Heap.emp, h, ⟨by simp, .inl ⟨rfl, rfl, rfl⟩, by simp⟩, H, fun _ _ => .inl rfl, fun _ _ _ e => (by cases e), sub_refl h⟩)
  · rintro v L ⟨a', cap', hw, rfl, rfl⟩; exact (k a' cap' hw).h

theorem A_app (T : Tab P) {t : TypeId} {x y : Operand} {i : TI} {a a2 : Option Addr} {l cap m c elem esz eb : Nat} {ez us news : List Value} {ea : Bool} {R : List HProp}
    (k : ∀ a' cap', wf a' (l + m) cap' → WkR T B r n rest pd (updO e s.o.dst (.slice a' (l + m) cap')) (sl a' (l + m) cap' esz (us ++ news) :: sl a2 m c esz news :: R) Q)
    (hop : s.o.op = .call ⟨.builtin .append, #[x, y], #[t, t]⟩ := by rfl) (hg : wantedE e s.g = true := by rfl) (hcl : Nat.ble 2 s.cls = true := by rfl) (ht : lookT T.l t = some i := by rfl) (hk : i.kind = .slice elem esz eb ez ea := by rfl) (hsz : Nat.ble 1 esz = true := by rfl) (hzz : Nat.beq (mkV ea ez).cells.size esz = true := by rfl)
    (hx : ev e x = .slice a l cap := by rfl) (hy : ev e y = .slice a2 m c := by rfl) (hp : Take S [sl a l cap esz us, sl a2 m c esz news] R := by (repeat (first | exact Take.nil | with_reducible apply tk0 | with_reducible apply tk1 | with_reducible apply tk2 | with_reducible apply tk3 | with_reducible apply tk4 | with_reducible apply tk5 | with_reducible apply tk6 | with_reducible apply tk7 | with_reducible apply tk8 | with_reducible apply tk9 | with_reducible apply tk10 | with_reducible apply tk11 | with_reducible apply tk12 | with_reducible apply tk13 | with_reducible apply tk14 | with_reducible apply tk15 | with_reducible apply tk16 | with_reducible apply tk17 | with_reducible apply tk18 | with_reducible apply tk19 | with_reducible apply tk20 | with_reducible apply tk21 | with_reducible apply tk22 | with_reducible apply tk23 | apply tk0 | apply tk1 | apply tk2 | apply tk3 | apply tk4 | apply tk5 | apply tk6 | apply tk7 | apply tk8 | apply tk9 | apply tk10 | apply tk11 | apply tk12 | apply tk13 | apply tk14 | apply tk15 | apply tk16 | apply tk17 | apply tk18 | apply tk19 | apply tk20 | apply tk21 | apply tk22 | apply tk23)); (first | done | fail)) (hsrc : Src B (sl a2 m c esz news) a2 m news := by first | exact .inr ⟨_, _, rfl, RdF_sl⟩ | exact Src_sl (by assumption)) (h1 : news.all one = true := by first | rfl | exact flat_all (by infer_instance) _) (hl : locksOk pd R s.locks := by (repeat (first | exact locks_nil | refine locks_c rfl (by (repeat (first | exact Take.nil | with_reducible apply tk0 | with_reducible apply tk1 | with_reducible apply tk2 | with_reducible apply tk3 | with_reducible apply tk4 | with_reducible apply tk5 | with_reducible apply tk6 | with_reducible apply tk7 | with_reducible apply tk8 | with_reducible apply tk9 | with_reducible apply tk10 | with_reducible apply tk11 | with_reducible apply tk12 | with_reducible apply tk13 | with_reducible apply tk14 | with_reducible apply tk15 | with_reducible apply tk16 | with_reducible apply tk17 | with_reducible apply tk18 | with_reducible apply tk19 | with_reducible apply tk20 | with_reducible apply tk21 | with_reducible apply tk22 | with_reducible apply tk23 | apply tk0 | apply tk1 | apply tk2 | apply tk3 | apply tk4 | apply tk5 | apply tk6 | apply tk7 | apply tk8 | apply tk9 | apply tk10 | apply tk11 | apply tk12 | apply tk13 | apply tk14 | apply tk15 | apply tk16 | apply tk17 | apply tk18 | apply tk19 | apply tk20 | apply tk21 | apply tk22 | apply tk23)); (first | done | fail)) ?_)); (first | done | fail)) (hb : l + m ≤ 281474976710656 ∧ (l + m) * eb ≤ 140737488355328 := by first | omega | (dsimp only; omega) | (simp; done) | (simp at *; omega)) : Wk P B r n (s :: rest) pd e S Q :=
  A_appF T hsrc (fun w R hs => (sl_len hs).1) h1 hb k hop hg hcl ht hk hsz hzz hx hy hp hl
theorem A_appNil (T : Tab P) {t : TypeId} {x y : Operand} {i : TI} {a2 : Option Addr} {m c elem esz eb : Nat} {ez news : List Value} {ea : Bool} {R : List HProp}
    (k : ∀ a' cap', wf a' m cap' → WkR T B r n rest pd (updO e s.o.dst (.slice a' m cap')) (sl a' m cap' esz news :: sl a2 m c esz news :: R) Q)
    (hop : s.o.op = .call ⟨.builtin .append, #[x, y], #[t, t]⟩ := by rfl) (hg : wantedE e s.g = true := by rfl) (hcl : Nat.ble 2 s.cls = true := by rfl) (ht : lookT T.l t = some i := by rfl) (hk : i.kind = .slice elem esz eb ez ea := by rfl) (hsz : Nat.ble 1 esz = true := by rfl) (hzz : Nat.beq (mkV ea ez).cells.size esz = true := by rfl)
    (hx : ev e x = .slice none 0 0 := by rfl) (hy : ev e y = .slice a2 m c := by rfl) (hp : Pick S (sl a2 m c esz news) R := by with_reducible first | exact pk0 | exact pk1 | exact pk2 | exact pk3 | exact pk4 | exact pk5 | exact pk6 | exact pk7 | exact pk8 | exact pk9 | exact pk10 | exact pk11 | exact pk12 | exact pk13 | exact pk14 | exact pk15 | exact pk16 | exact pk17 | exact pk18 | exact pk19 | exact pk20 | exact pk21 | exact pk22 | exact pk23) (hsrc : Src B (sl a2 m c esz news) a2 m news := by first | exact .inr ⟨_, _, rfl, RdF_sl⟩ | exact Src_sl (by assumption)) (h1 : news.all one = true := by first | rfl | exact flat_all (by infer_instance) _) (hl : locksOk pd R s.locks := by (repeat (first | exact locks_nil | refine locks_c rfl (by (repeat (first | exact Take.nil | with_reducible apply tk0 | with_reducible apply tk1 | with_reducible apply tk2 | with_reducible apply tk3 | with_reducible apply tk4 | with_reducible apply tk5 | with_reducible apply tk6 | with_reducible apply tk7 | with_reducible apply tk8 | with_reducible apply tk9 | with_reducible apply tk10 | with_reducible apply tk11 | with_reducible apply tk12 | with_reducible apply tk13 | with_reducible apply tk14 | with_reducible apply tk15 | with_reducible apply tk16 | with_reducible apply tk17 | with_reducible apply tk18 | with_reducible apply tk19 | with_reducible apply tk20 | with_reducible apply tk21 | with_reducible apply tk22 | with_reducible apply tk23 | apply tk0 | apply tk1 | apply tk2 | apply tk3 | apply tk4 | apply tk5 | apply tk6 | apply tk7 | apply tk8 | apply tk9 | apply tk10 | apply tk11 | apply tk12 | apply tk13 | apply tk14 | apply tk15 | apply tk16 | apply tk17 | apply tk18 | apply tk19 | apply tk20 | apply tk21 | apply tk22 | apply tk23)); (first | done | fail)) ?_)); (first | done | fail)) (hb : m ≤ 281474976710656 ∧ m * eb ≤ 140737488355328 := by first | omega | (dsimp only; omega) | (simp; done) | (simp at *; omega)) : Wk P B r n (s :: rest) pd e S Q :=
  A_appNilF T hsrc (fun w R hs => (sl_len hs).1) h1 hb k hop hg hcl ht hk hsz hzz hx hy hp hl
/-- From what is only read. -/
theorem A_appRo (T : Tab P) {t : TypeId} {x y : Operand} {i : TI} {a : Option Addr} {b2 q2 l cap m c elem esz eb : Nat} {ez us news : List Value} {ea : Bool} {R : List HProp}
    (hb : l + m ≤ 281474976710656 ∧ (l + m) * eb ≤ 140737488355328) (hnl : news.length = m * esz) (h1 : news.all one = true)
    (k : ∀ a' cap', wf a' (l + m) cap' → WkR T B r n rest pd (updO e s.o.dst (.slice a' (l + m) cap')) (sl a' (l + m) cap' esz (us ++ news) :: ro B b2 q2 news :: R) Q)
    (hop : s.o.op = .call ⟨.builtin .append, #[x, y], #[t, t]⟩ := by rfl) (hg : wantedE e s.g = true := by rfl) (hcl : Nat.ble 2 s.cls = true := by rfl) (ht : lookT T.l t = some i := by rfl) (hk : i.kind = .slice elem esz eb ez ea := by rfl) (hsz : Nat.ble 1 esz = true := by rfl) (hzz : Nat.beq (mkV ea ez).cells.size esz = true := by rfl)
    (hx : ev e x = .slice a l cap := by rfl) (hy : ev e y = .slice (some ⟨b2, q2, none⟩) m c := by rfl) (hp : Take S [sl a l cap esz us, ro B b2 q2 news] R := by (repeat (first | exact Take.nil | with_reducible apply tk0 | with_reducible apply tk1 | with_reducible apply tk2 | with_reducible apply tk3 | with_reducible apply tk4 | with_reducible apply tk5 | with_reducible apply tk6 | with_reducible apply tk7 | with_reducible apply tk8 | with_reducible apply tk9 | with_reducible apply tk10 | with_reducible apply tk11 | with_reducible apply tk12 | with_reducible apply tk13 | with_reducible apply tk14 | with_reducible apply tk15 | with_reducible apply tk16 | with_reducible apply tk17 | with_reducible apply tk18 | with_reducible apply tk19 | with_reducible apply tk20 | with_reducible apply tk21 | with_reducible apply tk22 | with_reducible apply tk23 | apply tk0 | apply tk1 | apply tk2 | apply tk3 | apply tk4 | apply tk5 | apply tk6 | apply tk7 | apply tk8 | apply tk9 | apply tk10 | apply tk11 | apply tk12 | apply tk13 | apply tk14 | apply tk15 | apply tk16 | apply tk17 | apply tk18 | apply tk19 | apply tk20 | apply tk21 | apply tk22 | apply tk23)); (first | done | fail)) (hl : locksOk pd R s.locks := by (repeat (first | exact locks_nil | refine locks_c rfl (by (repeat (first | exact Take.nil | with_reducible apply tk0 | with_reducible apply tk1 | with_reducible apply tk2 | with_reducible apply tk3 | with_reducible apply tk4 | with_reducible apply tk5 | with_reducible apply tk6 | with_reducible apply tk7 | with_reducible apply tk8 | with_reducible apply tk9 | with_reducible apply tk10 | with_reducible apply tk11 | with_reducible apply tk12 | with_reducible apply tk13 | with_reducible apply tk14 | with_reducible apply tk15 | with_reducible apply tk16 | with_reducible apply tk17 | with_reducible apply tk18 | with_reducible apply tk19 | with_reducible apply tk20 | with_reducible apply tk21 | with_reducible apply tk22 | with_reducible apply tk23 | apply tk0 | apply tk1 | apply tk2 | apply tk3 | apply tk4 | apply tk5 | apply tk6 | apply tk7 | apply tk8 | apply tk9 | apply tk10 | apply tk11 | apply tk12 | apply tk13 | apply tk14 | apply tk15 | apply tk16 | apply tk17 | apply tk18 | apply tk19 | apply tk20 | apply tk21 | apply tk22 | apply tk23)); (first | done | fail)) ?_)); (first | done | fail)) : Wk P B r n (s :: rest) pd e S Q :=
  A_appF T (.inr ⟨_, _, rfl, RdF_ro⟩) (fun _ _ _ => hnl) h1 hb k hop hg hcl ht hk hsz hzz hx hy hp hl

/-! ### Elements -/
theorem A_el {α : Type} {enc : α → List Value} {esz : Nat} (T : Tab P) {t : TypeId} {x : Operand} {i : TI} {b off m ln cap : Nat} {R : List HProp} {l : List α} {us : List Value} {a : α}
    (k : WkR T B r n rest (pdAdd s [sl (some ⟨b, off, none⟩) ln cap esz (flat enc l)] pd) (updO e s.o.dst (mkV i.agg us)) S Q)
    (hop : s.o.op = .load t x := by rfl) (hg : wantedE e s.g = true := by rfl) (hcl : Nat.beq s.cls 2 = false := by rfl) (hp0 : Nat.beq s.cls 0 = false := by rfl)
    (ht : lookT T.l t = some i := by rfl) (h1 : (i.agg || Nat.beq i.sz 1) = true := by rfl) (hx : ev e x = .pointer (some ⟨b, off + m * esz, none⟩) := by rfl) (hp : Pick S (sl (some ⟨b, off, none⟩) ln cap esz (flat enc l)) R := by with_reducible first | exact pk0 | exact pk1 | exact pk2 | exact pk3 | exact pk4 | exact pk5 | exact pk6 | exact pk7 | exact pk8 | exact pk9 | exact pk10 | exact pk11 | exact pk12 | exact pk13 | exact pk14 | exact pk15 | exact pk16 | exact pk17 | exact pk18 | exact pk19 | exact pk20 | exact pk21 | exact pk22 | exact pk23)
    (u : Uni enc esz := by infer_instance) (hk : l[m]? = some a := by first | assumption | rfl) (hv : cut (enc a) 0 0 i.sz = some us := by rfl) : Wk P B r n (s :: rest) pd e S Q :=
  A_ldE T u RdF_sl hk k rfl hop hg hcl hp0 ht h1 hx hp hv
theorem A_el1 {α : Type} {enc : α → List Value} {esz : Nat} (T : Tab P) {t : TypeId} {x : Operand} {i : TI} {b off m d ln cap : Nat} {R : List HProp} {l : List α} {us : List Value} {a : α}
    (k : WkR T B r n rest (pdAdd s [sl (some ⟨b, off, none⟩) ln cap esz (flat enc l)] pd) (updO e s.o.dst (mkV i.agg us)) S Q)
    (hop : s.o.op = .load t x := by rfl) (hg : wantedE e s.g = true := by rfl) (hcl : Nat.beq s.cls 2 = false := by rfl) (hp0 : Nat.beq s.cls 0 = false := by rfl)
    (ht : lookT T.l t = some i := by rfl) (h1 : (i.agg || Nat.beq i.sz 1) = true := by rfl) (hx : ev e x = .pointer (some ⟨b, off + m * esz + d, none⟩) := by rfl) (hp : Pick S (sl (some ⟨b, off, none⟩) ln cap esz (flat enc l)) R := by with_reducible first | exact pk0 | exact pk1 | exact pk2 | exact pk3 | exact pk4 | exact pk5 | exact pk6 | exact pk7 | exact pk8 | exact pk9 | exact pk10 | exact pk11 | exact pk12 | exact pk13 | exact pk14 | exact pk15 | exact pk16 | exact pk17 | exact pk18 | exact pk19 | exact pk20 | exact pk21 | exact pk22 | exact pk23)
    (u : Uni enc esz := by infer_instance) (hk : l[m]? = some a := by first | assumption | rfl) (hv : cut (enc a) 0 d i.sz = some us := by rfl) : Wk P B r n (s :: rest) pd e S Q :=
  A_ldE T u RdF_sl hk k rfl hop hg hcl hp0 ht h1 hx hp hv
theorem A_el2 {α : Type} {enc : α → List Value} {esz : Nat} (T : Tab P) {t : TypeId} {x : Operand} {i : TI} {b off m d d2 ln cap : Nat} {R : List HProp} {l : List α} {us : List Value} {a : α}
    (k : WkR T B r n rest (pdAdd s [sl (some ⟨b, off, none⟩) ln cap esz (flat enc l)] pd) (updO e s.o.dst (mkV i.agg us)) S Q)
    (hop : s.o.op = .load t x := by rfl) (hg : wantedE e s.g = true := by rfl) (hcl : Nat.beq s.cls 2 = false := by rfl) (hp0 : Nat.beq s.cls 0 = false := by rfl)
    (ht : lookT T.l t = some i := by rfl) (h1 : (i.agg || Nat.beq i.sz 1) = true := by rfl) (hx : ev e x = .pointer (some ⟨b, off + m * esz + d + d2, none⟩) := by rfl) (hp : Pick S (sl (some ⟨b, off, none⟩) ln cap esz (flat enc l)) R := by with_reducible first | exact pk0 | exact pk1 | exact pk2 | exact pk3 | exact pk4 | exact pk5 | exact pk6 | exact pk7 | exact pk8 | exact pk9 | exact pk10 | exact pk11 | exact pk12 | exact pk13 | exact pk14 | exact pk15 | exact pk16 | exact pk17 | exact pk18 | exact pk19 | exact pk20 | exact pk21 | exact pk22 | exact pk23)
    (u : Uni enc esz := by infer_instance) (hk : l[m]? = some a := by first | assumption | rfl) (hv : cut (enc a) 0 (d + d2) i.sz = some us := by rfl) : Wk P B r n (s :: rest) pd e S Q :=
  A_ldE T u RdF_sl hk k (Nat.add_assoc ..) hop hg hcl hp0 ht h1 hx hp hv
/-- From cells that lie as they were written out. -/
theorem A_ldSl (T : Tab P) {t : TypeId} {x : Operand} {i : TI} {b off q ln cap esz : Nat} {R : List HProp} {vs us : List Value}
    (k : WkR T B r n rest (pdAdd s [sl (some ⟨b, off, none⟩) ln cap esz vs] pd) (updO e s.o.dst (mkV i.agg us)) S Q)
    (hop : s.o.op = .load t x := by rfl) (hg : wantedE e s.g = true := by rfl) (hcl : Nat.beq s.cls 2 = false := by rfl) (hp0 : Nat.beq s.cls 0 = false := by rfl)
    (ht : lookT T.l t = some i := by rfl) (h1 : (i.agg || Nat.beq i.sz 1) = true := by rfl) (hx : ev e x = .pointer (some ⟨b, q, none⟩) := by rfl) (hp : Pick S (sl (some ⟨b, off, none⟩) ln cap esz vs) R := by with_reducible first | exact pk0 | exact pk1 | exact pk2 | exact pk3 | exact pk4 | exact pk5 | exact pk6 | exact pk7 | exact pk8 | exact pk9 | exact pk10 | exact pk11 | exact pk12 | exact pk13 | exact pk14 | exact pk15 | exact pk16 | exact pk17 | exact pk18 | exact pk19 | exact pk20 | exact pk21 | exact pk22 | exact pk23) (hv : cut vs off q i.sz = some us := by rfl) : Wk P B r n (s :: rest) pd e S Q :=
  S_load T hop hg hcl hp0 ht h1 hx hp RdF_sl hv k
theorem ResL_cell (T : Tab P) {a : Tmp} {t : TypeId} {l : List ResultVar} {vs ws us : List Value} {i : TI} {b off q : Nat} {R : List HProp} (h : ResL S P e l vs)
    (hx : e a = .pointer (some ⟨b, q, none⟩) := by rfl) (ht : lookT T.l t = some i := by rfl) (h1 : (i.agg || Nat.beq i.sz 1) = true := by rfl) (hp : Pick S (pts b off ws) R := by with_reducible first | exact pk0 | exact pk1 | exact pk2 | exact pk3 | exact pk4 | exact pk5 | exact pk6 | exact pk7 | exact pk8 | exact pk9 | exact pk10 | exact pk11 | exact pk12 | exact pk13 | exact pk14 | exact pk15 | exact pk16 | exact pk17 | exact pk18 | exact pk19 | exact pk20 | exact pk21 | exact pk22 | exact pk23) (hv : cut ws off q i.sz = some us := by rfl) :
    ResL S P e (.cell a t :: l) (mkV i.agg us :: vs) := by
  refine .cell (fun B w hs => ⟨_, hx, ?_⟩) h
  obtain ⟨hl, hc⟩ := cut_spec hv
  exact run_loadVar_ok (T.at ht) hl (fun ha => by rw [ha] at h1; simpa using h1) (fun j v hj => by
    obtain ⟨c1, c2⟩ := hc j v hj
    rw [← c2]; exact (hs.pick hp).cell? c1)
end
end Go.Rz
