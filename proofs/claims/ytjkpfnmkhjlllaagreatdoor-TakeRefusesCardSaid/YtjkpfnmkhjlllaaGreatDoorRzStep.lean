/- The rules in the form in which a walk uses them: each does one operation, and then goes on as far as things are only computed. -/
import Derived.Test.YtjkpfnmkhjlllaaGreatDoorRzRules
set_option linter.unusedVariables false
set_option linter.unusedSimpArgs false
namespace Go.Rz
open Go.RowKit (Below)
set_option linter.unusedVariables false

section
variable {P : Program} {T : Tab P} {B : Base} {r : Option Nat} {n : Nat} {s : St} {rest todo : List St} {pd : List (Nat × List HProp)} {e : Env} {S : List HProp} {Q : Env → List HProp → Prop}

/-! ### Regions -/
theorem T_regionR (T : Tab P) {N : Nat} {ds : List Deferred} {Q : Post} {id : Nat} {ops : Array Oper} (hok : (List.range ops.size).all (planOk1 N ops) = true)
    (h : WkR T B r n (plan ops (inText ops.size)) [] e S (fun e S => Q .normal e ds S)) : Tri P B r n N (.region id ops false) e ds S Q := T_region hok h.h
theorem T_drawR (T : Tab P) {N : Nat} {ds : List Deferred} {Q : Post} {id : Nat} {ops : Array Oper} (l : Nat → List (Nat × Nat × Bool × List Nat)) (hm : P.follows .mixedOrders = true) (hok : drawB N ops (l id) = true)
    (h : WkR T B r n (plan ops (l id)) [] e S (fun e S => Q .normal e ds S)) : Tri P B r n N (.region id ops true) e ds S Q := T_region_draw (l id) hm hok h.h

theorem locks_cons {R R' Lk : List HProp} {j : Nat} {js : List Nat} (h1 : (j, Lk) ∈ pd) (h2 : Take R Lk R') (h3 : locksOk pd R js) : locksOk pd R (j :: js) := ⟨⟨Lk, R', h1, h2⟩, h3⟩
theorem locks_nil {R : List HProp} : locksOk pd R [] := trivial

theorem S_skip (T : Tab P) (hg : wantedE e s.g = false) (k : WkR T B r n rest (pdAdd s [] pd) (updO e s.o.dst undef) S Q) : Wk P B r n (s :: rest) pd e S Q := .skip hg k.h
/-! ### Comparisons -/
theorem S_cmp (T : Tab P) {op : BinOp} {t t2 : TypeId} {x y : Operand} {c : Prop} (hop : s.o.op = .binOp op t x y t2) (hg : wantedE e s.g = true) (hcl : (s.keep || Nat.beq s.cls 2) = false)
    (hc : cmpQ op (ev e x) (ev e y) = some c) (hk : sameKind (ev e x) (ev e y) = true)
    (ht : c → WkR T B r n rest pd (updO e s.o.dst (.bool true)) S Q) (hf : ¬ c → WkR T B r n rest pd (updO e s.o.dst (.bool false)) S Q) : Wk P B r n (s :: rest) pd e S Q :=
  W_cmp hop hg hcl hc hk (fun x => (ht x).h) (fun x => (hf x).h)

/-! ### Loads and stores -/
theorem S_load (T : Tab P) {t : TypeId} {x : Operand} {i : TI} {b off q : Nat} {F : HProp} {R : List HProp} {vs us : List Value} (hop : s.o.op = .load t x) (hg : wantedE e s.g = true) (hcl : Nat.beq s.cls 2 = false) (hp0 : Nat.beq s.cls 0 = false)
    (ht : lookT T.l t = some i) (h1 : (i.agg || Nat.beq i.sz 1) = true) (hx : ev e x = .pointer (some ⟨b, q, none⟩)) (hp : Pick S F R) (hr : RdF B F b off vs) (hv : cut vs off q i.sz = some us)
    (k : WkR T B r n rest (pdAdd s [F] pd) (updO e s.o.dst (mkV i.agg us)) S Q) : Wk P B r n (s :: rest) pd e S Q :=
  W_load T hop hg hcl hp0 ht h1 hx hp hr hv k.h
theorem S_loadPts (T : Tab P) {t : TypeId} {x : Operand} {i : TI} {b off q : Nat} {R : List HProp} {vs us : List Value} (hop : s.o.op = .load t x) (hg : wantedE e s.g = true) (hcl : Nat.beq s.cls 2 = false) (hp0 : Nat.beq s.cls 0 = false)
    (ht : lookT T.l t = some i) (h1 : (i.agg || Nat.beq i.sz 1) = true) (hx : ev e x = .pointer (some ⟨b, q, none⟩)) (hp : Pick S (pts b off vs) R) (hv : cut vs off q i.sz = some us)
    (k : WkR T B r n rest (pdAdd s [pts b off vs] pd) (updO e s.o.dst (mkV i.agg us)) S Q) : Wk P B r n (s :: rest) pd e S Q :=
  W_load T hop hg hcl hp0 ht h1 hx hp RdF_pts hv k.h

theorem S_store (T : Tab P) {t : TypeId} {x y : Operand} {i : TI} {b off q : Nat} {R : List HProp} {vs us ws : List Value} {v : Value} (hop : s.o.op = .store t x y) (hd : s.o.dst = none) (hg : wantedE e s.g = true) (hcl : Nat.ble 2 s.cls = true)
    (ht : lookT T.l t = some i) (hx : ev e x = .pointer (some ⟨b, q, none⟩)) (hy : ev e y = v) (hu : v.cells.toList = us) (hp : Pick S (pts b off vs) R) (hl : locksOk pd R s.locks)
    (hb : (Nat.ble off q && Nat.ble (q - off + i.sz) vs.length) = true) (hlen : Nat.beq us.length i.sz = true) (ho : us.all one = true) (hw : splice vs (q - off) us = ws)
    (k : WkR T B r n rest pd e (pts b off ws :: R) Q) : Wk P B r n (s :: rest) pd e S Q :=
  W_store T hop hd hg hcl ht hx hy hu hp hl hb hlen ho (hw ▸ k.h)

/-! ### Calls -/
theorem S_call (T : Tab P) {f : FuncId} {args : Array Operand} {ats : Array TypeId} {vals : List Value} {A R : List HProp} {φ : Prop} {Ps : Value → List HProp → Prop} (hfn : IsFn P f) (hop : s.o.op = .call ⟨.value (.func f), args, ats⟩) (hg : wantedE e s.g = true) (hcl : Nat.ble 2 s.cls = true)
    (h : φ → Fn P B f vals A Ps) (ha : args.toList.map (ev e) = vals) (ht : Take S A R) (hφ : φ) (hl : locksOk pd R s.locks)
    (k : ∀ v L, Ps v L → WkR T B r n rest pd (updO e s.o.dst v) (L ++ R) Q) : Wk P B r n (s :: rest) pd e S Q :=
  W_call hfn hop hg hcl ha (h hφ) ht hl fun v L x => (k v L x).h

/-! ### New memory -/
theorem alloc_eq' (w : World) (o : Obj) : ({ w with heap := w.heap.push o } : World) = w.alloc o := rfl

theorem S_alloc (T : Tab P) {t : TypeId} {i : TI} (hop : s.o.op = .alloc t) (hg : wantedE e s.g = true) (hcl : Nat.ble 2 s.cls = true) (ht : lookT T.l t = some i) (hz : (mkV i.agg i.zero).cells.toList = i.zero) (hl : locksOk pd S s.locks)
    (k : ∀ b, WkR T B r n rest pd (updO e s.o.dst (.pointer (some ⟨b, 0, none⟩))) (pts b 0 i.zero :: S) Q) : Wk P B r n (s :: rest) pd e S Q := by
  refine .anchor [] S (fun v L => ∃ b, v = .pointer (some ⟨b, 0, none⟩) ∧ L = [pts b 0 i.zero]) hg hcl .nil (OpT_run (by simp [hop]) fun fr w hs => ?_) hl ?_
  · refine ⟨_, _, w.alloc (.cells (mkV i.agg i.zero).cells t), ?_, ⟨w.heap.size, rfl, rfl⟩, ?_⟩
    · simp only [execOp, hop, Instr.alloc, Sem.run_bind, (T.at ht).zeroV, Result.andThen_ok, newVar, newRow, run_newObj, Sem.run_pure]; rfl
    · have := hs.alloc (mkV i.agg i.zero).cells t
      rw [hz] at this
      exact this.mono fun h H => seps_cons_mono (fun _ => seps_tail) H
  · rintro v L ⟨b, rfl, rfl⟩; exact (k b).h

theorem S_box (T : Tab P) {t : TypeId} {x : Operand} {v : Value} {us : List Value} (hop : s.o.op = .box t x) (hg : wantedE e s.g = true) (hcl : Nat.ble 2 s.cls = true) (hx : ev e x = v) (hu : v.cells.toList = us) (hl : locksOk pd S s.locks)
    (k : ∀ b, WkR T B r n rest pd (updO e s.o.dst (.pointer (some ⟨b, 0, none⟩))) (pts b 0 us :: S) Q) : Wk P B r n (s :: rest) pd e S Q := by
  refine .anchor [] S (fun v L => ∃ b, v = .pointer (some ⟨b, 0, none⟩) ∧ L = [pts b 0 us]) hg hcl .nil (OpT_run (by simp [hop]) fun fr w hs => ?_) hl ?_
  · refine ⟨_, _, w.alloc (.cells v.cells t), ?_, ⟨w.heap.size, rfl, rfl⟩, ?_⟩
    · simp only [execOp, hop, Instr.box, Sem.run_bind, hx, newVar, newRow, run_newObj, Result.andThen_ok, Sem.run_pure]; rfl
    · have := hs.alloc v.cells t
      rw [hu] at this
      exact this.mono fun h H => seps_cons_mono (fun _ => seps_tail) H
  · rintro v L ⟨b, rfl, rfl⟩; exact (k b).h

end
end Go.Rz
