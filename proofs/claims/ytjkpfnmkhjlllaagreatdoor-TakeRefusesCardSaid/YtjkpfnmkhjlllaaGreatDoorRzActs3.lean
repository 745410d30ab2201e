/- Rules for parts of slices: append, copy, clear. -/
import Derived.Test.YtjkpfnmkhjlllaaGreatDoorRzEq
import Derived.Lib.Overlaps
set_option linter.unusedVariables false
set_option linter.unusedSimpArgs false
namespace Go.Rz
open Go.RowKit (Below)
set_option linter.unusedVariables false

/-! ### Opening a slice -/
theorem sl_open {B : Base} {w : World} {b off n cap esz : Nat} {us : List Value} {S : List HProp} (hs : Sat B w (sl (some ⟨b, off, none⟩) n cap esz us :: S)) :
    us.length = n * esz ∧ n ≤ cap ∧ ∃ junk : List Value, junk.length = (cap - n) * esz ∧ Sat B w (pts b off (us ++ junk) :: S) := by
  obtain ⟨h1, h2⟩ := sl_len hs
  refine ⟨h1, ?_, ?_⟩
  · rcases h2 with ⟨h, _⟩ | ⟨_, _, _, h⟩
    · cases h
    · exact h
  · obtain ⟨hbel, hszz, h, hw, g1, g2, ga, gs, gd, s1, s2⟩ := hs
    obtain ⟨_, _, g3⟩ := ga
    obtain ⟨junk, hj, hp⟩ := g3 b off rfl
    exact ⟨junk, hj, hbel, hszz, h, hw, g1, g2, hp, gs, gd, s1, s2⟩
theorem sl_close {b off n cap esz : Nat} {us junk : List Value} {S : List HProp} (h1 : us.length = n * esz) (h2 : n ≤ cap) (h3 : junk.length = (cap - n) * esz) : Ent (pts b off (us ++ junk) :: S) (sl (some ⟨b, off, none⟩) n cap esz us :: S) := fun h H =>
  seps_head_mono (fun g hg => ⟨h1, .inr ⟨b, off, rfl, h2⟩, fun b' off' e => ⟨junk, h3, by
    simp only [Option.some.injEq, Addr.mk.injEq] at e
    obtain ⟨rfl, rfl, _⟩ := e
    exact hg⟩⟩) H
/-- More of the room is told. -/
theorem sl_extend {b off n m cap esz : Nat} {us : List Value} {S : List HProp} (h : n + m ≤ cap) : Ent (sl (some ⟨b, off, none⟩) n cap esz us :: S) (ex (fun js : List Value => [pr (js.length = m * esz ∧ us.length = n * esz), sl (some ⟨b, off, none⟩) (n + m) cap esz (us ++ js)]) :: S) := fun h' H => by
  obtain ⟨h1, h2, ⟨ha, hb, hc⟩, s, d, s1, s2⟩ := H
  obtain ⟨junk, hj, hp⟩ := hc b off rfl
  have hmul : m * esz ≤ (cap - n) * esz := Nat.mul_le_mul_right _ (by omega)
  refine Ent.ex (A := fun js : List Value => [pr (js.length = m * esz ∧ us.length = n * esz), sl (some ⟨b, off, none⟩) (n + m) cap esz (us ++ js)]) (junk.take (m * esz)) h' (Ent.pr ⟨by rw [List.length_take]; omega, ha⟩ h' ⟨h1, h2, ⟨?_, ?_, ?_⟩, s, d, s1, s2⟩)
  · rw [List.length_append, List.length_take, ha, Nat.add_mul]; omega
  · exact .inr ⟨b, off, rfl, h⟩
  · intro b' off' e
    refine ⟨junk.drop (m * esz), ?_, ?_⟩
    · rw [List.length_drop, hj, ← Nat.sub_mul]; congr 1; omega
    · simp only [Option.some.injEq, Addr.mk.injEq] at e
      obtain ⟨rfl, rfl, _⟩ := e
      rw [List.append_assoc, List.take_append_drop]; exact hp
/-- Less of it. -/
theorem sl_shrink {a : Option Addr} {n k cap esz : Nat} {us : List Value} {S : List HProp} (h : k ≤ n) : Ent (sl a n cap esz us :: S) (sl a k cap esz (us.take (k * esz)) :: S) := fun h' H =>
  seps_head_mono (fun g hg => by
    obtain ⟨ha, hb, hc⟩ := hg
    have hmul : k * esz ≤ n * esz := Nat.mul_le_mul_right _ h
    refine ⟨by rw [List.length_take]; omega, ?_, fun b off e => ?_⟩
    · rcases hb with ⟨rfl, rfl, rfl⟩ | ⟨b, off, rfl, hle⟩
      · exact .inl ⟨rfl, by omega, rfl⟩
      · exact .inr ⟨b, off, rfl, by omega⟩
    · obtain ⟨junk, hj, hp⟩ := hc b off e
      have hle : n ≤ cap := by
        rcases hb with ⟨rfl, _, _⟩ | ⟨_, _, _, hle⟩
        · cases e
        · exact hle
      refine ⟨us.drop (k * esz) ++ junk, ?_, ?_⟩
      · rw [List.length_append, List.length_drop, ha, hj, ← Nat.sub_mul, ← Nat.add_mul]; congr 1; omega
      · rw [← List.append_assoc, List.take_append_drop]; exact hp) H
theorem sl_free {a : Option Addr} {esz : Nat} {S : List HProp} (h : wf a 0 0) : Ent S (sl a 0 0 esz [] :: S) := fun g H =>
  ⟨Heap.emp, g, ⟨by simp, h, fun b off e => ⟨[], by simp, fun i v e => by simp at e⟩⟩, H, fun _ _ => .inl rfl, fun _ _ _ e => (by cases e), sub_refl g⟩

section
variable {P : Program} {T : Tab P} {B : Base} {r : Option Nat} {n : Nat} {s : St} {rest todo : List St} {pd : List (Nat × List HProp)} {e : Env} {S : List HProp} {Q : Env → List HProp → Prop}

theorem add_lit' {b off k : Nat} : (⟨b, off, none⟩ : Addr).add k = ⟨b, off + k, none⟩ := by
  unfold Addr.add
  split
  · rename_i h; simp [h]
  · rfl

/-! ### A store into a slice -/
theorem OpT_stEl (T : Tab P) {o : Oper} {t : TypeId} {x y : Operand} {i : TI} {b off q ln cap esz : Nat} {vs us : List Value} {v : Value} (hop : o.op = .store t x y)
    (ht : lookT T.l t = some i) (hx : ev e x = .pointer (some ⟨b, off + q, none⟩)) (hy : ev e y = v) (hu : v.cells.toList = us) (hb : q + i.sz ≤ ln * esz) (hlen : us.length = i.sz) (ho : us.all one = true) :
    OpT P B r n o e [sl (some ⟨b, off, none⟩) ln cap esz vs] (fun _ L => L = [sl (some ⟨b, off, none⟩) ln cap esz (splice vs q us)]) := by
  refine OpT_run_skip (by simp [hop]) fun fr w hs => ?_
  obtain ⟨hvl, hle, junk, hj, hs⟩ := sl_open (S := fr) hs
  have hsp : vs ++ junk = vs.take q ++ (vs.drop q).take i.sz ++ (vs.drop (q + i.sz) ++ junk) := by
    rw [← List.append_assoc, List.append_assoc (vs.take q), ← List.drop_drop, List.take_append_drop, List.take_append_drop]
  rw [hsp] at hs
  obtain ⟨w', h1, h2⟩ := run_storeVar_ok (P := P) (S := fr) (T.at ht) (v := v) hu hs (by simp; omega) hlen ho
  have ha : off + (vs.take q).length = off + q := by simp; omega
  rw [ha] at h1
  refine ⟨_, w', by simp [execOp, hop, Instr.storeAt, hx, hy, Instr.sureAddr, h1], rfl, ?_⟩
  have h3 : vs.take q ++ us ++ (vs.drop (q + i.sz) ++ junk) = splice vs q us ++ junk := by
    rw [splice_eq _ _ _ (by omega), hlen]; simp
  rw [h3] at h2
  exact h2.mono (sl_close (by rw [splice_eq _ _ _ (by omega)]; simp; omega) hle hj)
theorem A_stEl (T : Tab P) {t : TypeId} {x y : Operand} {i : TI} {b off m d ln cap esz : Nat} {R : List HProp} {vs us : List Value} {v : Value}
    (k : WkR T B r n rest pd e (sl (some ⟨b, off, none⟩) ln cap esz (splice vs (m * esz + d) us) :: R) Q)
    (hop : s.o.op = .store t x y := by rfl) (hd : s.o.dst = none := by rfl) (hg : wantedE e s.g = true := by rfl) (hcl : Nat.ble 2 s.cls = true := by rfl)
    (ht : lookT T.l t = some i := by rfl) (hx : ev e x = .pointer (some ⟨b, off + m * esz + d, none⟩) := by rfl) (hy : ev e y = v := by rfl) (hu : v.cells.toList = us := by rfl) (hp : Pick S (sl (some ⟨b, off, none⟩) ln cap esz vs) R := by with_reducible first | exact pk0 | exact pk1 | exact pk2 | exact pk3 | exact pk4 | exact pk5 | exact pk6 | exact pk7 | exact pk8 | exact pk9 | exact pk10 | exact pk11 | exact pk12 | exact pk13 | exact pk14 | exact pk15 | exact pk16 | exact pk17 | exact pk18 | exact pk19 | exact pk20 | exact pk21 | exact pk22 | exact pk23) (hl : locksOk pd R s.locks := by (repeat (first | exact locks_nil | refine locks_c rfl (by (repeat (first | exact Take.nil | with_reducible apply tk0 | with_reducible apply tk1 | with_reducible apply tk2 | with_reducible apply tk3 | with_reducible apply tk4 | with_reducible apply tk5 | with_reducible apply tk6 | with_reducible apply tk7 | with_reducible apply tk8 | with_reducible apply tk9 | with_reducible apply tk10 | with_reducible apply tk11 | with_reducible apply tk12 | with_reducible apply tk13 | with_reducible apply tk14 | with_reducible apply tk15 | with_reducible apply tk16 | with_reducible apply tk17 | with_reducible apply tk18 | with_reducible apply tk19 | with_reducible apply tk20 | with_reducible apply tk21 | with_reducible apply tk22 | with_reducible apply tk23 | apply tk0 | apply tk1 | apply tk2 | apply tk3 | apply tk4 | apply tk5 | apply tk6 | apply tk7 | apply tk8 | apply tk9 | apply tk10 | apply tk11 | apply tk12 | apply tk13 | apply tk14 | apply tk15 | apply tk16 | apply tk17 | apply tk18 | apply tk19 | apply tk20 | apply tk21 | apply tk22 | apply tk23)); (first | done | fail)) ?_)); (first | done | fail))
    (hm : m < ln := by first | assumption | omega) (hds : Nat.ble (d + i.sz) esz = true := by rfl) (hlen : Nat.beq us.length i.sz = true := by rfl) (ho : us.all one = true := by rfl) : Wk P B r n (s :: rest) pd e S Q := by
  have hds' : d + i.sz ≤ esz := by simpa using hds
  have hmul : (m + 1) * esz ≤ ln * esz := Nat.mul_le_mul_right _ hm
  rw [Nat.add_mul, Nat.one_mul] at hmul
  refine .anchor _ R _ hg hcl (.cons hp .nil) (OpT_stEl T hop ht (by rw [hx, Nat.add_assoc]) hy hu (by omega) (Nat.eq_of_beq_eq_true hlen) ho) hl ?_
  rintro u L rfl
  rw [hd]
  exact k.h

/-! ### cap -/
theorem A_cap (T : Tab P) {t : TypeId} {x : Operand} {i : TI} {a : Option Addr} {ln cap elem esz eb : Nat} {ez : List Value} {ea : Bool}
    (k : WkR T B r n rest (pdAdd s [] pd) (updO e s.o.dst (.int .i64 cap)) S Q)
    (hop : s.o.op = .call ⟨.builtin .cap, #[x], #[t]⟩ := by rfl) (hg : wantedE e s.g = true := by rfl) (hcl : Nat.beq s.cls 2 = false := by rfl) (ht : lookT T.l t = some i := by rfl) (hk : i.kind = .slice elem esz eb ez ea := by rfl) (hx : ev e x = .slice a ln cap := by rfl) : Wk P B r n (s :: rest) pd e S Q := by
  refine S_val T _ (fun w => ?_) (by simp [hop]) hg hcl k
  have := (T.at ht).kind
  rw [hk] at this
  have e1 : Array.map (ev e) #[x] = #[.slice a ln cap] := by simp [hx]
  simp only [execOp, hop, resolve, Sem.run_bind, Sem.run_pure, Result.andThen_ok, invoke, builtin, e1]
  simp [Builtin.cap_, run_underlying_ok this.1, goInt]

/-! ### append, where what is appended lies in the same row -/
theorem append_in_run {w : World} {t ty el : TypeId} {ti : TypeInfo} (ht : P.underlying t = some (.slice el)) (hi : P.info? el = some ti) {b off ln cap i j c : Nat} {us : List Value} {S : List HProp}
    (hs : Sat B w (sl (some ⟨b, off, none⟩) ln cap ti.size us :: S)) (hij : i ≤ j) (hj : j ≤ ln) (ho : us.all one = true) {sc : Nat} (hc : c = ln - j) {q : Nat} (hq : c = 0 ∨ q = off + j * ti.size) :
    ∃ w', (Builtin.append_ #[t, t] ty #[.slice (some ⟨b, off, none⟩) i cap, .slice (some ⟨b, q, none⟩) c sc]).run P w = .ok (.slice (some ⟨b, off, none⟩) (i + c) cap) w' ∧ Sat B w' (sl (some ⟨b, off, none⟩) (i + c) cap ti.size (us.take (i * ti.size) ++ us.drop (j * ti.size)) :: S) := by
  obtain ⟨hul, hle, junk, hjl, hs'⟩ := sl_open hs
  have hmi : i * ti.size ≤ j * ti.size := Nat.mul_le_mul_right _ hij
  have hmj : j * ti.size ≤ ln * ti.size := Nat.mul_le_mul_right _ hj
  have hml : ln * ti.size ≤ cap * ti.size := Nat.mul_le_mul_right _ hle
  have hdl : (us.drop (j * ti.size)).length = c * ti.size := by rw [List.length_drop, hul, hc, Nat.sub_mul]
  have hic : i * ti.size + c * ti.size ≤ ln * ti.size := by rw [hc, Nat.sub_mul]; omega
  have hfc : (Builtin.firstCells ti.size c (.slice (some ⟨b, q, none⟩) c sc)).run P w = .ok (us.drop (j * ti.size)).toArray w := by
    rcases hq with h0 | rfl
    · subst h0
      have : us.drop (j * ti.size) = [] := List.eq_nil_of_length_eq_zero (by omega)
      rw [this]
      exact run_firstCells_some (P := P) w ti.size 0 _ 0 sc [] (by simp) (by simp)
    · refine run_firstCells_some (P := P) w ti.size c _ c sc _ hdl (fun k v hk => ?_)
      rw [List.getElem?_drop] at hk
      have := hs'.cell? (i := j * ti.size + k) (v := v) (by rw [List.getElem?_append_left (List.getElem?_eq_some_iff.1 hk).1]; exact hk)
      rw [add_lit']; rw [show off + j * ti.size + k = off + (j * ti.size + k) by omega]; exact this
  have hall : (us.drop (j * ti.size)).all one = true := by
    rw [List.all_eq_true] at ho ⊢
    exact fun x hx => ho x (List.mem_of_mem_drop hx)
  have hs3 : Sat B w (pts b (off + i * ti.size) ((us ++ junk).drop (i * ti.size)) :: pts b off ((us ++ junk).take (i * ti.size)) :: S) := by
    have h4 := hs'
    rw [← List.take_append_drop (i * ti.size) (us ++ junk)] at h4
    have h5 := h4.mono fun h H => seps_swap (pts_split H)
    rwa [show ((us ++ junk).take (i * ti.size)).length = i * ti.size by rw [List.length_take, List.length_append, hul, hjl, Nat.sub_mul]; omega] at h5
  obtain ⟨w', r1, r2⟩ := storeCells_run (P := P) (us.drop (j * ti.size)) 0 _ w hs3 (by simp only [List.length_drop, List.length_append, hul, hjl, Nat.sub_mul]; omega) hall
  refine ⟨w', ?_, ?_⟩
  · have hroom : i + c ≤ cap := by omega
    simp [Builtin.append_, run_underlying ht, sizeOf, typeInfo, hi, Builtin.lenOf, hroom, hfc, add_lit', r1]
  · simp only [List.take_zero, List.nil_append, Nat.zero_add, List.drop_drop, hdl] at r2
    have h6 : Sat B w' (pts b off ((us ++ junk).take (i * ti.size) ++ (us.drop (j * ti.size) ++ (us ++ junk).drop (i * ti.size + c * ti.size))) :: S) := r2.mono fun h H => by
      refine pts_join ?_
      rw [show ((us ++ junk).take (i * ti.size)).length = i * ti.size by rw [List.length_take, List.length_append, hul, hjl, Nat.sub_mul]; omega]
      exact seps_swap H
    rw [List.take_append_of_le_length (by omega), ← List.append_assoc] at h6
    refine h6.mono (sl_close ?_ (by omega) ?_)
    · rw [List.length_append, List.length_take, hdl, Nat.add_mul]; omega
    · rw [List.length_drop, List.length_append, hul, hjl, Nat.sub_mul, Nat.sub_mul, Nat.add_mul]; omega

theorem A_appIn (T : Tab P) {t : TypeId} {x y : Operand} {ii : TI} {b off ln cap i j c q sc elem esz eb : Nat} {ez us : List Value} {ea : Bool} {R : List HProp}
    (k : WkR T B r n rest pd (updO e s.o.dst (.slice (some ⟨b, off, none⟩) (i + c) cap)) (sl (some ⟨b, off, none⟩) (i + c) cap esz (us.take (i * esz) ++ us.drop (j * esz)) :: R) Q)
    (hop : s.o.op = .call ⟨.builtin .append, #[x, y], #[t, t]⟩ := by rfl) (hg : wantedE e s.g = true := by rfl) (hcl : Nat.ble 2 s.cls = true := by rfl) (ht : lookT T.l t = some ii := by rfl) (hk : ii.kind = .slice elem esz eb ez ea := by rfl) (hzz : Nat.beq (mkV ea ez).cells.size esz = true := by rfl)
    (hx : ev e x = .slice (some ⟨b, off, none⟩) i cap := by rfl) (hy : ev e y = .slice (some ⟨b, q, none⟩) c sc := by rfl) (hp : Pick S (sl (some ⟨b, off, none⟩) ln cap esz us) R := by with_reducible first | exact pk0 | exact pk1 | exact pk2 | exact pk3 | exact pk4 | exact pk5 | exact pk6 | exact pk7 | exact pk8 | exact pk9 | exact pk10 | exact pk11 | exact pk12 | exact pk13 | exact pk14 | exact pk15 | exact pk16 | exact pk17 | exact pk18 | exact pk19 | exact pk20 | exact pk21 | exact pk22 | exact pk23) (hl : locksOk pd R s.locks := by (repeat (first | exact locks_nil | refine locks_c rfl (by (repeat (first | exact Take.nil | with_reducible apply tk0 | with_reducible apply tk1 | with_reducible apply tk2 | with_reducible apply tk3 | with_reducible apply tk4 | with_reducible apply tk5 | with_reducible apply tk6 | with_reducible apply tk7 | with_reducible apply tk8 | with_reducible apply tk9 | with_reducible apply tk10 | with_reducible apply tk11 | with_reducible apply tk12 | with_reducible apply tk13 | with_reducible apply tk14 | with_reducible apply tk15 | with_reducible apply tk16 | with_reducible apply tk17 | with_reducible apply tk18 | with_reducible apply tk19 | with_reducible apply tk20 | with_reducible apply tk21 | with_reducible apply tk22 | with_reducible apply tk23 | apply tk0 | apply tk1 | apply tk2 | apply tk3 | apply tk4 | apply tk5 | apply tk6 | apply tk7 | apply tk8 | apply tk9 | apply tk10 | apply tk11 | apply tk12 | apply tk13 | apply tk14 | apply tk15 | apply tk16 | apply tk17 | apply tk18 | apply tk19 | apply tk20 | apply tk21 | apply tk22 | apply tk23)); (first | done | fail)) ?_)); (first | done | fail))
    (ho : us.all one = true) (hij : i ≤ j ∧ j ≤ ln ∧ c = ln - j) (hq : c = 0 ∨ q = off + j * esz) : Wk P B r n (s :: rest) pd e S Q := by
  have hkd := (T.at ht).kind
  rw [hk] at hkd
  obtain ⟨hu, ti, z, hi, hz, hzs, rfl, rfl⟩ := tiOf hzz hkd
  refine .anchor [sl (some ⟨b, off, none⟩) ln cap ti.size us] R (fun v L => v = .slice (some ⟨b, off, none⟩) (i + c) cap ∧ L = [sl (some ⟨b, off, none⟩) (i + c) cap ti.size (us.take (i * ti.size) ++ us.drop (j * ti.size))]) hg hcl (.cons hp .nil) (OpT_run (by simp [hop]) fun fr w hs => ?_) hl ?_
  · obtain ⟨w', h1, h2⟩ := append_in_run (P := P) (ty := s.o.type) hu hi (S := fr) hs hij.1 hij.2.1 ho (sc := sc) hij.2.2 hq
    refine ⟨_, _, w', ?_, ⟨rfl, rfl⟩, h2⟩
    simp only [execOp, hop, resolve, Sem.run_bind, Sem.run_pure, Result.andThen_ok, invoke, builtin]
    have e1 : Array.map (ev e) #[x, y] = #[.slice (some ⟨b, off, none⟩) i cap, .slice (some ⟨b, q, none⟩) c sc] := by simp [hx, hy]
    rw [e1, h1]; rfl
  · rintro v L ⟨rfl, rfl⟩; exact k.h

/-! ### clear, where only what is behind the end is cleared -/
theorem A_clearE (T : Tab P) {t : TypeId} {x : Operand} {ii : TI} {b off ln cap c q sc elem esz eb : Nat} {ez us : List Value} {ea : Bool} {R : List HProp}
    (k : WkR T B r n rest pd (updO e s.o.dst (.tuple #[])) (sl (some ⟨b, off, none⟩) ln cap esz us :: R) Q)
    (hop : s.o.op = .call ⟨.builtin .clear, #[x], #[t]⟩ := by rfl) (hg : wantedE e s.g = true := by rfl) (hcl : Nat.ble 2 s.cls = true := by rfl) (ht : lookT T.l t = some ii := by rfl) (hk : ii.kind = .slice elem esz eb ez ea := by rfl) (hzz : Nat.beq (mkV ea ez).cells.size esz = true := by rfl) (hz1 : (mkV ea ez).cells.toList.all one = true := by rfl)
    (hx : ev e x = .slice (some ⟨b, q, none⟩) c sc := by rfl) (hp : Pick S (sl (some ⟨b, off, none⟩) ln cap esz us) R := by with_reducible first | exact pk0 | exact pk1 | exact pk2 | exact pk3 | exact pk4 | exact pk5 | exact pk6 | exact pk7 | exact pk8 | exact pk9 | exact pk10 | exact pk11 | exact pk12 | exact pk13 | exact pk14 | exact pk15 | exact pk16 | exact pk17 | exact pk18 | exact pk19 | exact pk20 | exact pk21 | exact pk22 | exact pk23) (hl : locksOk pd R s.locks := by (repeat (first | exact locks_nil | refine locks_c rfl (by (repeat (first | exact Take.nil | with_reducible apply tk0 | with_reducible apply tk1 | with_reducible apply tk2 | with_reducible apply tk3 | with_reducible apply tk4 | with_reducible apply tk5 | with_reducible apply tk6 | with_reducible apply tk7 | with_reducible apply tk8 | with_reducible apply tk9 | with_reducible apply tk10 | with_reducible apply tk11 | with_reducible apply tk12 | with_reducible apply tk13 | with_reducible apply tk14 | with_reducible apply tk15 | with_reducible apply tk16 | with_reducible apply tk17 | with_reducible apply tk18 | with_reducible apply tk19 | with_reducible apply tk20 | with_reducible apply tk21 | with_reducible apply tk22 | with_reducible apply tk23 | apply tk0 | apply tk1 | apply tk2 | apply tk3 | apply tk4 | apply tk5 | apply tk6 | apply tk7 | apply tk8 | apply tk9 | apply tk10 | apply tk11 | apply tk12 | apply tk13 | apply tk14 | apply tk15 | apply tk16 | apply tk17 | apply tk18 | apply tk19 | apply tk20 | apply tk21 | apply tk22 | apply tk23)); (first | done | fail)) ?_)); (first | done | fail)) (hc : ln + c ≤ cap) (hq : c = 0 ∨ q = off + ln * esz) : Wk P B r n (s :: rest) pd e S Q := by
  have hkd := (T.at ht).kind
  rw [hk] at hkd
  obtain ⟨hu, ti, z, hi, hz, hzs, rfl, rfl⟩ := tiOf hzz hkd
  have hz0 : P.info? elem = some ti → ti.zero = some (mkV ea ez) := fun _ => by
    have h5 := hkd.2.2.2.2.1
    rw [hi] at h5
    simpa using h5
  have hzv := hz0 hi
  rw [hz] at hzv
  simp only [Option.some.injEq] at hzv
  subst hzv
  refine .anchor [sl (some ⟨b, off, none⟩) ln cap ti.size us] R (fun v L => v = .tuple #[] ∧ L = [sl (some ⟨b, off, none⟩) ln cap ti.size us]) hg hcl (.cons hp .nil) (OpT_run (by simp [hop]) fun fr w hs => ?_) hl ?_
  · have e1 : Array.map (ev e) #[x] = #[.slice (some ⟨b, q, none⟩) c sc] := by simp [hx]
    by_cases h0 : c = 0
    · subst h0
      refine ⟨_, _, w, ?_, ⟨rfl, rfl⟩, hs⟩
      simp only [execOp, hop, resolve, Sem.run_bind, Sem.run_pure, Result.andThen_ok, invoke, builtin, e1]
      simp [Builtin.clear_, run_underlying hu]
    · obtain rfl := hq.resolve_left h0
      obtain ⟨hul, hle, junk, hjl, hs'⟩ := sl_open (S := fr) hs
      have hs3 : Sat B w (pts b (off + us.length) junk :: pts b off us :: fr) := hs'.mono fun h H => seps_swap (pts_split H)
      have hzl : (Builtin.zeroCells (mkV ea ez).cells c).toList.length = c * ti.size := by simp [size_zeroCells, hzs]
      have hcj : c * ti.size ≤ (cap - ln) * ti.size := Nat.mul_le_mul_right _ (by omega)
      have hall : (Builtin.zeroCells (mkV ea ez).cells c).toList.all one = true := by
        rw [List.all_eq_true] at hz1 ⊢
        intro x hx
        simp only [Builtin.zeroCells, Array.toList_map, List.mem_map] at hx
        obtain ⟨i, hi', rfl⟩ := hx
        have hpos : 0 < (mkV ea ez).cells.size := by
          rcases Nat.eq_zero_or_pos (mkV ea ez).cells.size with h | h
          · rw [h] at hi'; simp at hi'
          · exact h
        refine hz1 _ ?_
        rw [getElem!_pos (mkV ea ez).cells (i % (mkV ea ez).cells.size) (Nat.mod_lt _ hpos)]
        exact Array.getElem_mem_toList ..
      obtain ⟨w', r1, r2⟩ := storeCells_run (P := P) (Builtin.zeroCells (mkV ea ez).cells c).toList 0 _ w hs3 (by omega) hall
      refine ⟨_, _, w', ?_, ⟨rfl, rfl⟩, ?_⟩
      · simp only [execOp, hop, resolve, Sem.run_bind, Sem.run_pure, Result.andThen_ok, invoke, builtin, e1]
        have hu' : us.length = ln * ti.size := hul
        rw [hu'] at r1
        have hzr : (zeroValue elem).run P w = .ok (mkV ea ez) w := by simp [zeroValue, typeInfo, hi, hz]
        cases c with
        | zero => exact absurd rfl h0
        | succ c => simp [Builtin.clear_, run_underlying hu, hzr, r1]
      · simp only [List.take_zero, List.nil_append, Nat.zero_add] at r2
        exact r2.mono fun h H => sl_close hul hle (by rw [List.length_append, List.length_drop, hzl, hjl]; omega) h (pts_join (seps_swap H))
  · rintro v L ⟨rfl, rfl⟩; exact k.h

/-! ### copy -/
theorem copy_run {w : World} {t ty el : TypeId} {ti : TypeInfo} (ht : P.underlying t = some (.slice el)) (hi : P.info? el = some ti) {b off ln cap i dl dc c sn sc : Nat} {vs us : List Value} {src : Option Addr} {S : List HProp}
    (hs : Sat B w (sl (some ⟨b, off, none⟩) ln cap ti.size vs :: S)) (hc : c = min sn dl) (hic : i + c ≤ ln) (hfc : (Builtin.firstCells ti.size c (.slice src sn sc)).run P w = .ok us.toArray w) (hul : us.length = c * ti.size) (ho : us.all one = true) {q : Nat} (hq : c = 0 ∨ q = off + i * ti.size) :
    ∃ w', (Builtin.copy_ #[t, t] ty #[.slice (some ⟨b, q, none⟩) dl dc, .slice src sn sc]).run P w = .ok (.int .i64 c) w' ∧ Sat B w' (sl (some ⟨b, off, none⟩) ln cap ti.size (splice vs (i * ti.size) us) :: S) := by
  obtain ⟨hvl, hle, junk, hjl, hs'⟩ := sl_open hs
  have hmul : (i + c) * ti.size ≤ ln * ti.size := Nat.mul_le_mul_right _ hic
  rw [Nat.add_mul] at hmul
  have hn : Nat.min sn dl = c := by rw [hc]
  by_cases h0 : c = 0
  · subst h0
    obtain rfl : us = [] := List.eq_nil_of_length_eq_zero (by omega)
    refine ⟨w, ?_, ?_⟩
    · simp [Builtin.copy_, run_underlying ht, sizeOf, typeInfo, hi, Builtin.lenOf, hn, hfc, storeCells, goInt]
    · rw [splice_eq _ _ _ (by simp; omega)]
      simpa using hs
  · obtain rfl := hq.resolve_left h0
    have hs3 : Sat B w (pts b (off + i * ti.size) ((vs ++ junk).drop (i * ti.size)) :: pts b off ((vs ++ junk).take (i * ti.size)) :: S) := by
      have h4 := hs'
      rw [← List.take_append_drop (i * ti.size) (vs ++ junk)] at h4
      have h5 := h4.mono fun h H => seps_swap (pts_split H)
      rwa [show ((vs ++ junk).take (i * ti.size)).length = i * ti.size by rw [List.length_take, List.length_append, hvl]; omega] at h5
    obtain ⟨w', r1, r2⟩ := storeCells_run (P := P) us 0 _ w hs3 (by rw [List.length_drop, List.length_append, hvl]; omega) ho
    refine ⟨w', ?_, ?_⟩
    · simp [Builtin.copy_, run_underlying ht, sizeOf, typeInfo, hi, Builtin.lenOf, hn, hfc, r1, goInt]
    · simp only [List.take_zero, List.nil_append, Nat.zero_add, List.drop_drop] at r2
      have h6 : Sat B w' (pts b off ((vs ++ junk).take (i * ti.size) ++ (us ++ (vs ++ junk).drop (i * ti.size + us.length))) :: S) := r2.mono fun h H => by
        refine pts_join ?_
        rw [show ((vs ++ junk).take (i * ti.size)).length = i * ti.size by rw [List.length_take, List.length_append, hvl]; omega]
        exact seps_swap H
      rw [List.take_append_of_le_length (by omega), List.drop_append_of_le_length (by omega), ← List.append_assoc, ← List.append_assoc, ← splice_eq _ _ _ (by omega)] at h6
      exact h6.mono (sl_close (by rw [splice_eq _ _ _ (by omega)]; simp; omega) hle hjl)

/-- From somewhere else. -/
theorem A_copy (T : Tab P) {t : TypeId} {x y : Operand} {ii : TI} {b off ln cap i dl dc q b2 off2 q2 j sn sc ln2 cap2 elem esz eb : Nat} {ez vs us : List Value} {ea : Bool} {R : List HProp}
    (k : WkR T B r n rest pd (updO e s.o.dst (.int .i64 sn)) (sl (some ⟨b, off, none⟩) ln cap esz (splice vs (i * esz) (us.drop (j * esz))) :: sl (some ⟨b2, off2, none⟩) ln2 cap2 esz us :: R) Q)
    (hop : s.o.op = .call ⟨.builtin .copy, #[x, y], #[t, t]⟩ := by rfl) (hg : wantedE e s.g = true := by rfl) (hcl : Nat.ble 2 s.cls = true := by rfl) (ht : lookT T.l t = some ii := by rfl) (hk : ii.kind = .slice elem esz eb ez ea := by rfl) (hzz : Nat.beq (mkV ea ez).cells.size esz = true := by rfl)
    (hx : ev e x = .slice (some ⟨b, q, none⟩) dl dc := by rfl) (hy : ev e y = .slice (some ⟨b2, q2, none⟩) sn sc := by rfl) (hp : Take S [sl (some ⟨b, off, none⟩) ln cap esz vs, sl (some ⟨b2, off2, none⟩) ln2 cap2 esz us] R := by (repeat (first | exact Take.nil | with_reducible apply tk0 | with_reducible apply tk1 | with_reducible apply tk2 | with_reducible apply tk3 | with_reducible apply tk4 | with_reducible apply tk5 | with_reducible apply tk6 | with_reducible apply tk7 | with_reducible apply tk8 | with_reducible apply tk9 | with_reducible apply tk10 | with_reducible apply tk11 | with_reducible apply tk12 | with_reducible apply tk13 | with_reducible apply tk14 | with_reducible apply tk15 | with_reducible apply tk16 | with_reducible apply tk17 | with_reducible apply tk18 | with_reducible apply tk19 | with_reducible apply tk20 | with_reducible apply tk21 | with_reducible apply tk22 | with_reducible apply tk23 | apply tk0 | apply tk1 | apply tk2 | apply tk3 | apply tk4 | apply tk5 | apply tk6 | apply tk7 | apply tk8 | apply tk9 | apply tk10 | apply tk11 | apply tk12 | apply tk13 | apply tk14 | apply tk15 | apply tk16 | apply tk17 | apply tk18 | apply tk19 | apply tk20 | apply tk21 | apply tk22 | apply tk23)); (first | done | fail)) (hl : locksOk pd R s.locks := by (repeat (first | exact locks_nil | refine locks_c rfl (by (repeat (first | exact Take.nil | with_reducible apply tk0 | with_reducible apply tk1 | with_reducible apply tk2 | with_reducible apply tk3 | with_reducible apply tk4 | with_reducible apply tk5 | with_reducible apply tk6 | with_reducible apply tk7 | with_reducible apply tk8 | with_reducible apply tk9 | with_reducible apply tk10 | with_reducible apply tk11 | with_reducible apply tk12 | with_reducible apply tk13 | with_reducible apply tk14 | with_reducible apply tk15 | with_reducible apply tk16 | with_reducible apply tk17 | with_reducible apply tk18 | with_reducible apply tk19 | with_reducible apply tk20 | with_reducible apply tk21 | with_reducible apply tk22 | with_reducible apply tk23 | apply tk0 | apply tk1 | apply tk2 | apply tk3 | apply tk4 | apply tk5 | apply tk6 | apply tk7 | apply tk8 | apply tk9 | apply tk10 | apply tk11 | apply tk12 | apply tk13 | apply tk14 | apply tk15 | apply tk16 | apply tk17 | apply tk18 | apply tk19 | apply tk20 | apply tk21 | apply tk22 | apply tk23)); (first | done | fail)) ?_)); (first | done | fail))
    (ho : us.all one = true) (hc : sn ≤ dl ∧ i + sn ≤ ln ∧ j + sn = ln2) (hq : sn = 0 ∨ (q = off + i * esz ∧ q2 = off2 + j * esz)) : Wk P B r n (s :: rest) pd e S Q := by
  have hkd := (T.at ht).kind
  rw [hk] at hkd
  obtain ⟨hu, ti, z, hi, hz, hzs, rfl, rfl⟩ := tiOf hzz hkd
  refine .anchor [sl (some ⟨b, off, none⟩) ln cap ti.size vs, sl (some ⟨b2, off2, none⟩) ln2 cap2 ti.size us] R (fun v L => v = .int .i64 sn ∧ L = [sl (some ⟨b, off, none⟩) ln cap ti.size (splice vs (i * ti.size) (us.drop (j * ti.size))), sl (some ⟨b2, off2, none⟩) ln2 cap2 ti.size us]) hg hcl hp (OpT_run (by simp [hop]) fun fr w hs => ?_) hl ?_
  · have hs2 : Sat B w (sl (some ⟨b2, off2, none⟩) ln2 cap2 ti.size us :: sl (some ⟨b, off, none⟩) ln cap ti.size vs :: fr) := hs.mono fun h => seps_swap
    have hul := (sl_len hs2).1
    have hdl : (us.drop (j * ti.size)).length = sn * ti.size := by rw [List.length_drop, hul, ← Nat.sub_mul]; congr 1; omega
    have hfc : (Builtin.firstCells ti.size sn (.slice (some ⟨b2, q2, none⟩) sn sc)).run P w = .ok (us.drop (j * ti.size)).toArray w := by
      rcases hq with h0 | ⟨-, rfl⟩
      · subst h0
        have : us.drop (j * ti.size) = [] := List.eq_nil_of_length_eq_zero (by omega)
        rw [this]
        exact run_firstCells_some (P := P) w ti.size 0 _ 0 sc [] (by simp) (by simp)
      · refine run_firstCells_some (P := P) w ti.size sn _ sn sc _ hdl (fun k v hk => ?_)
        rw [List.getElem?_drop] at hk
        have := RdF_sl w _ hs2 (j * ti.size + k) v hk
        rw [add_lit', show off2 + j * ti.size + k = off2 + (j * ti.size + k) by omega]; exact this
    have hall : (us.drop (j * ti.size)).all one = true := by
      rw [List.all_eq_true] at ho ⊢
      exact fun x hx => ho x (List.mem_of_mem_drop hx)
    obtain ⟨w', h1, h2⟩ := copy_run (P := P) (ty := s.o.type) hu hi (c := sn) (dl := dl) (dc := dc) (S := sl (some ⟨b2, off2, none⟩) ln2 cap2 ti.size us :: fr) hs (by omega) hc.2.1 hfc hdl hall (q := q) (hq.imp id fun h => h.1)
    refine ⟨_, _, w', ?_, ⟨rfl, rfl⟩, h2⟩
    simp only [execOp, hop, resolve, Sem.run_bind, Sem.run_pure, Result.andThen_ok, invoke, builtin]
    have e1 : Array.map (ev e) #[x, y] = #[.slice (some ⟨b, q, none⟩) dl dc, .slice (some ⟨b2, q2, none⟩) sn sc] := by simp [hx, hy]
    rw [e1, h1]; rfl
  · rintro v L ⟨rfl, rfl⟩; exact k.h
/-- Within one row. -/
theorem A_copyIn (T : Tab P) {t : TypeId} {x y : Operand} {ii : TI} {b off ln cap i dl dc q q2 j sn sc c elem esz eb : Nat} {ez vs us : List Value} {ea : Bool} {R : List HProp}
    (k : WkR T B r n rest pd (updO e s.o.dst (.int .i64 c)) (sl (some ⟨b, off, none⟩) ln cap esz (splice vs (i * esz) us) :: R) Q)
    (hop : s.o.op = .call ⟨.builtin .copy, #[x, y], #[t, t]⟩ := by rfl) (hg : wantedE e s.g = true := by rfl) (hcl : Nat.ble 2 s.cls = true := by rfl) (ht : lookT T.l t = some ii := by rfl) (hk : ii.kind = .slice elem esz eb ez ea := by rfl) (hzz : Nat.beq (mkV ea ez).cells.size esz = true := by rfl)
    (hx : ev e x = .slice (some ⟨b, q, none⟩) dl dc := by rfl) (hy : ev e y = .slice (some ⟨b, q2, none⟩) sn sc := by rfl) (hp : Pick S (sl (some ⟨b, off, none⟩) ln cap esz vs) R := by with_reducible first | exact pk0 | exact pk1 | exact pk2 | exact pk3 | exact pk4 | exact pk5 | exact pk6 | exact pk7 | exact pk8 | exact pk9 | exact pk10 | exact pk11 | exact pk12 | exact pk13 | exact pk14 | exact pk15 | exact pk16 | exact pk17 | exact pk18 | exact pk19 | exact pk20 | exact pk21 | exact pk22 | exact pk23) (hl : locksOk pd R s.locks := by (repeat (first | exact locks_nil | refine locks_c rfl (by (repeat (first | exact Take.nil | with_reducible apply tk0 | with_reducible apply tk1 | with_reducible apply tk2 | with_reducible apply tk3 | with_reducible apply tk4 | with_reducible apply tk5 | with_reducible apply tk6 | with_reducible apply tk7 | with_reducible apply tk8 | with_reducible apply tk9 | with_reducible apply tk10 | with_reducible apply tk11 | with_reducible apply tk12 | with_reducible apply tk13 | with_reducible apply tk14 | with_reducible apply tk15 | with_reducible apply tk16 | with_reducible apply tk17 | with_reducible apply tk18 | with_reducible apply tk19 | with_reducible apply tk20 | with_reducible apply tk21 | with_reducible apply tk22 | with_reducible apply tk23 | apply tk0 | apply tk1 | apply tk2 | apply tk3 | apply tk4 | apply tk5 | apply tk6 | apply tk7 | apply tk8 | apply tk9 | apply tk10 | apply tk11 | apply tk12 | apply tk13 | apply tk14 | apply tk15 | apply tk16 | apply tk17 | apply tk18 | apply tk19 | apply tk20 | apply tk21 | apply tk22 | apply tk23)); (first | done | fail)) ?_)); (first | done | fail))
    (hus : us = (vs.drop (j * esz)).take (c * esz)) (ho : us.all one = true) (hc : c = min sn dl ∧ i + c ≤ ln ∧ j + c ≤ ln) (hq : c = 0 ∨ (q = off + i * esz ∧ q2 = off + j * esz)) : Wk P B r n (s :: rest) pd e S Q := by
  have hkd := (T.at ht).kind
  rw [hk] at hkd
  obtain ⟨hu, ti, z, hi, hz, hzs, rfl, rfl⟩ := tiOf hzz hkd
  refine .anchor [sl (some ⟨b, off, none⟩) ln cap ti.size vs] R (fun v L => v = .int .i64 c ∧ L = [sl (some ⟨b, off, none⟩) ln cap ti.size (splice vs (i * ti.size) us)]) hg hcl (.cons hp .nil) (OpT_run (by simp [hop]) fun fr w hs => ?_) hl ?_
  · have hvl := (sl_len (S := fr) hs).1
    have hmul : (j + c) * ti.size ≤ ln * ti.size := Nat.mul_le_mul_right _ hc.2.2
    rw [Nat.add_mul] at hmul
    have hdl : us.length = c * ti.size := by rw [hus, List.length_take, List.length_drop, hvl]; omega
    have hfc : (Builtin.firstCells ti.size c (.slice (some ⟨b, q2, none⟩) sn sc)).run P w = .ok us.toArray w := by
      rcases hq with h0 | ⟨-, rfl⟩
      · subst h0
        obtain rfl : us = [] := List.eq_nil_of_length_eq_zero (by omega)
        exact run_firstCells_some (P := P) w ti.size 0 _ _ sc [] (by simp) (by simp)
      · refine run_firstCells_some (P := P) w ti.size c _ _ sc _ hdl (fun k v hk => ?_)
        rw [hus, List.getElem?_take] at hk
        split at hk
        · rw [List.getElem?_drop] at hk
          have := RdF_sl w fr hs (j * ti.size + k) v hk
          rw [add_lit', show off + j * ti.size + k = off + (j * ti.size + k) by omega]; exact this
        · cases hk
    obtain ⟨w', h1, h2⟩ := copy_run (P := P) (ty := s.o.type) hu hi (c := c) (dl := dl) (dc := dc) (S := fr) hs hc.1 hc.2.1 hfc hdl ho (q := q) (hq.imp id fun h => h.1)
    refine ⟨_, _, w', ?_, ⟨rfl, rfl⟩, h2⟩
    simp only [execOp, hop, resolve, Sem.run_bind, Sem.run_pure, Result.andThen_ok, invoke, builtin]
    have e1 : Array.map (ev e) #[x, y] = #[.slice (some ⟨b, q, none⟩) dl dc, .slice (some ⟨b, q2, none⟩) sn sc] := by simp [hx, hy]
    rw [e1, h1]; rfl
  · rintro v L ⟨rfl, rfl⟩; exact k.h

/-! ### append of new zeros, where there is no room -/
theorem append_make_run {w : World} {t u ty el : TypeId} {ti : TypeInfo} {z : Value} {k0 : IntKind} (ht : P.underlying t = some (.slice el)) (hu : P.underlying u = some (.int k0)) (hi : P.info? el = some ti) (hz : ti.zero = some z) (hzs : z.cells.size = ti.size) {base : Option Addr} {i cap c : Nat} {us : List Value}
    (hfc : (Builtin.firstCells ti.size i (.slice base i cap)).run P w.drew = .ok us.toArray w.drew) (hul : us.length = i * ti.size) (hroom : cap < i + c) (h63 : i + c ≤ maxLen) (hb : (i + c) * ti.bytes ≤ 140737488355328) {kx : IntKind} :
    (Builtin.append_ #[t, u] ty #[.slice base i cap, .int kx c]).run P w = .ok (.slice (some ⟨w.heap.size, 0, none⟩) (i + c) (grownCap w (i + c) cap el)) (w.drew.alloc (.cells (us.toArray ++ Builtin.zeroCells z.cells c ++ Builtin.zeroCells z.cells (grownCap w (i + c) cap el - (i + c))) el)) := by
  have hn : ¬ (i + c ≤ cap) := by omega
  have hm : (maxLen : Int) ≤ 9223372036854775807 := by decide
  have h63' : ¬ (9223372036854775807 < ((i : Int) + (c : Int))) := by omega
  have hfit := growslice_fits hroom hb
  have h48' : ¬ (281474976710656 < Builtin.nextslicecap (i + c) cap * ti.bytes) := by omega
  have hw : IntKind.i64.wrap (c : Int) = c := by rw [wr_eq]; exact w64_id (by omega) (by omega)
  have hcb : ¬ ((281474976710656 : Int) < (c : Int) * (ti.bytes : Int)) := by
    have h1 : c * ti.bytes ≤ (i + c) * ti.bytes := Nat.mul_le_mul_right _ (by omega)
    have h2 : ((c * ti.bytes : Nat) : Int) = (c : Int) * (ti.bytes : Int) := by simp
    omega
  have hneg : ¬ ((c : Int) < 0) := by omega
  have hz0 : c * ti.size = 0 → Builtin.zeroCells z.cells c = #[] := fun h0 => by
    apply Array.eq_empty_of_size_eq_zero
    rw [size_zeroCells, hzs, h0]
  by_cases h0 : c * ti.size = 0
  · simp [Builtin.append_, run_underlying ht, run_underlying hu, sizeOf, typeInfo, zeroValue, hi, hz, asInt, asIntOf, hw, hneg, hcb, hn, h63', h48', h0, hz0 h0, Question.forced, hfc, newRow, grownCap]
  · simp [Builtin.append_, run_underlying ht, run_underlying hu, sizeOf, typeInfo, zeroValue, hi, hz, asInt, asIntOf, hw, hneg, hcb, hn, h63', h48', h0, Question.forced, hfc, newRow, grownCap]
theorem zeros_all {z : Value} {c : Nat} (h : z.cells.toList.all one = true) : (Builtin.zeroCells z.cells c).toList.all one = true := by
  rw [List.all_eq_true] at h ⊢
  intro x hx
  simp only [Builtin.zeroCells, Array.toList_map, List.mem_map] at hx
  obtain ⟨i, hi', rfl⟩ := hx
  have hpos : 0 < z.cells.size := by
    rcases Nat.eq_zero_or_pos z.cells.size with h | h
    · rw [h] at hi'; simp at hi'
    · exact h
  refine h _ ?_
  rw [getElem!_pos z.cells (i % z.cells.size) (Nat.mod_lt _ hpos)]
  exact Array.getElem_mem_toList ..
/-- What was there stays. -/
theorem A_appMake (T : Tab P) (K : TabK P) (N : Nat) {t u : TypeId} {x y : Operand} {ii : TI} {k0 kx : IntKind} {b off ln cap i elem esz eb : Nat} {jj : Int} {ez us : List Value} {ea : Bool} {R : List HProp}
    (hij : i ≤ ln ∧ cap < N ∧ i ≤ N ∧ N ≤ 1000000000)
    (k : ∀ g cap' zs, zs.length = (N - i) * esz → N ≤ cap' → WkR T B r n rest pd (updO e s.o.dst (.slice (some ⟨g, 0, none⟩) N cap')) (sl (some ⟨g, 0, none⟩) N cap' esz (us.take (i * esz) ++ zs) :: sl (some ⟨b, off, none⟩) ln cap esz us :: R) Q)
    (hop : s.o.op = .call ⟨.builtin .append, #[x, y], #[t, u]⟩ := by rfl) (hg : wantedE e s.g = true := by rfl) (hcl : Nat.ble 2 s.cls = true := by rfl) (ht : lookT T.l t = some ii := by rfl) (hk : ii.kind = .slice elem esz eb ez ea := by rfl) (hK : lookK K.l u = some k0 := by rfl) (hzz : Nat.beq (mkV ea ez).cells.size esz = true := by rfl)
    (hbb : N * eb ≤ 140737488355328 := by first | omega | (simp; omega)) (hx : ev e x = .slice (some ⟨b, off, none⟩) i cap := by rfl) (hy : ev e y = .int kx jj := by rfl) (hjj : jj = (N - i : Nat) := by omega) (hp : Pick S (sl (some ⟨b, off, none⟩) ln cap esz us) R := by with_reducible first | exact pk0 | exact pk1 | exact pk2 | exact pk3 | exact pk4 | exact pk5 | exact pk6 | exact pk7 | exact pk8 | exact pk9 | exact pk10 | exact pk11 | exact pk12 | exact pk13 | exact pk14 | exact pk15 | exact pk16 | exact pk17 | exact pk18 | exact pk19 | exact pk20 | exact pk21 | exact pk22 | exact pk23) (hl : locksOk pd R s.locks := by (repeat (first | exact locks_nil | refine locks_c rfl (by (repeat (first | exact Take.nil | with_reducible apply tk0 | with_reducible apply tk1 | with_reducible apply tk2 | with_reducible apply tk3 | with_reducible apply tk4 | with_reducible apply tk5 | with_reducible apply tk6 | with_reducible apply tk7 | with_reducible apply tk8 | with_reducible apply tk9 | with_reducible apply tk10 | with_reducible apply tk11 | with_reducible apply tk12 | with_reducible apply tk13 | with_reducible apply tk14 | with_reducible apply tk15 | with_reducible apply tk16 | with_reducible apply tk17 | with_reducible apply tk18 | with_reducible apply tk19 | with_reducible apply tk20 | with_reducible apply tk21 | with_reducible apply tk22 | with_reducible apply tk23 | apply tk0 | apply tk1 | apply tk2 | apply tk3 | apply tk4 | apply tk5 | apply tk6 | apply tk7 | apply tk8 | apply tk9 | apply tk10 | apply tk11 | apply tk12 | apply tk13 | apply tk14 | apply tk15 | apply tk16 | apply tk17 | apply tk18 | apply tk19 | apply tk20 | apply tk21 | apply tk22 | apply tk23)); (first | done | fail)) ?_)); (first | done | fail)) : Wk P B r n (s :: rest) pd e S Q := by
  obtain ⟨c, hc⟩ : ∃ c, c = N - i := ⟨_, rfl⟩
  rw [← hc] at k hjj
  subst hjj
  obtain rfl : N = i + c := by omega
  have hkd := (T.at ht).kind
  rw [hk] at hkd
  obtain ⟨hu, ti, z, hi, hz, hzs, rfl, rfl⟩ := tiOf hzz hkd
  refine .anchor [sl (some ⟨b, off, none⟩) ln cap ti.size us] R (fun v L => ∃ g cap' zs, zs.length = c * ti.size ∧ i + c ≤ cap' ∧ v = .slice (some ⟨g, 0, none⟩) (i + c) cap' ∧ L = [sl (some ⟨g, 0, none⟩) (i + c) cap' ti.size (us.take (i * ti.size) ++ zs), sl (some ⟨b, off, none⟩) ln cap ti.size us]) hg hcl (.cons hp .nil) (OpT_run (by simp [hop]) fun fr w hs => ?_) hl ?_
  · have hul := (sl_len (S := fr) hs).1
    have hmul : i * ti.size ≤ ln * ti.size := Nat.mul_le_mul_right _ hij.1
    have htl : (us.take (i * ti.size)).length = i * ti.size := by rw [List.length_take]; omega
    have hfc : (Builtin.firstCells ti.size i (.slice (some ⟨b, off, none⟩) i cap)).run P w.drew = .ok (us.take (i * ti.size)).toArray w.drew := by
      refine run_firstCells_some (P := P) w.drew ti.size i _ i cap _ htl (fun k v hk => ?_)
      rw [List.getElem?_take] at hk
      split at hk
      · have := RdF_sl w.drew fr hs.drew k v hk
        rw [add_lit']; exact this
      · cases hk
    have hm : maxLen = 9223372036854775807 := by decide
    have hrun := append_make_run (P := P) (w := w) (ty := s.o.type) (kx := kx) hu (K.at hK) hi hz hzs hfc htl hij.2.1 (by omega) hbb
    have hcap : i + c ≤ grownCap w (i + c) cap elem := grownCap_ge ..
    refine ⟨_, _, w.drew.alloc (.cells ((us.take (i * ti.size)).toArray ++ Builtin.zeroCells z.cells c ++ Builtin.zeroCells z.cells (grownCap w (i + c) cap elem - (i + c))) elem), ?_, ⟨w.heap.size, _, (Builtin.zeroCells z.cells c).toList, by simp [size_zeroCells, hzs], hcap, rfl, rfl⟩, ?_⟩
    · simp only [execOp, hop, resolve, Sem.run_bind, Sem.run_pure, Result.andThen_ok, invoke, builtin]
      have e1 : Array.map (ev e) #[x, y] = #[.slice (some ⟨b, off, none⟩) i cap, .int kx c] := by simp [hx, hy]
      rw [e1, hrun]; rfl
    · have h1 := hs.drew.alloc ((us.take (i * ti.size)).toArray ++ Builtin.zeroCells z.cells c ++ Builtin.zeroCells z.cells (grownCap w (i + c) cap elem - (i + c))) elem
      have e2 : w.drew.heap.size = w.heap.size := rfl
      rw [e2] at h1
      refine h1.mono fun h H => ?_
      have h2 := seps_cons_mono (fun _ => seps_tail) H
      simp only [Array.toList_append] at h2
      exact sl_close (us := us.take (i * ti.size) ++ (Builtin.zeroCells z.cells c).toList) (by rw [List.length_append, htl]; simp [size_zeroCells, hzs, Nat.add_mul]) hcap (by simp [size_zeroCells, hzs]) h h2
  · rintro v L ⟨g, cap', zs, h1, h2, rfl, rfl⟩; exact (k g cap' zs h1 h2).h
/-- Of nothing. -/
theorem A_appMakeNil (T : Tab P) (K : TabK P) (c : Nat) {t u : TypeId} {x y : Operand} {ii : TI} {k0 kx : IntKind} {elem esz eb : Nat} {jj : Int} {ez : List Value} {ea : Bool}
    (hij : 0 < c ∧ c ≤ 1000000000)
    (k : ∀ g cap' zs, zs.length = c * esz → c ≤ cap' → WkR T B r n rest pd (updO e s.o.dst (.slice (some ⟨g, 0, none⟩) c cap')) (sl (some ⟨g, 0, none⟩) c cap' esz zs :: S) Q)
    (hop : s.o.op = .call ⟨.builtin .append, #[x, y], #[t, u]⟩ := by rfl) (hg : wantedE e s.g = true := by rfl) (hcl : Nat.ble 2 s.cls = true := by rfl) (ht : lookT T.l t = some ii := by rfl) (hk : ii.kind = .slice elem esz eb ez ea := by rfl) (hK : lookK K.l u = some k0 := by rfl) (hzz : Nat.beq (mkV ea ez).cells.size esz = true := by rfl)
    (hbb : c * eb ≤ 140737488355328 := by first | omega | (simp; omega)) (hx : ev e x = .slice none 0 0 := by rfl) (hy : ev e y = .int kx jj := by rfl) (hjj : jj = c := by omega) (hl : locksOk pd S s.locks := by (repeat (first | exact locks_nil | refine locks_c rfl (by (repeat (first | exact Take.nil | with_reducible apply tk0 | with_reducible apply tk1 | with_reducible apply tk2 | with_reducible apply tk3 | with_reducible apply tk4 | with_reducible apply tk5 | with_reducible apply tk6 | with_reducible apply tk7 | with_reducible apply tk8 | with_reducible apply tk9 | with_reducible apply tk10 | with_reducible apply tk11 | with_reducible apply tk12 | with_reducible apply tk13 | with_reducible apply tk14 | with_reducible apply tk15 | with_reducible apply tk16 | with_reducible apply tk17 | with_reducible apply tk18 | with_reducible apply tk19 | with_reducible apply tk20 | with_reducible apply tk21 | with_reducible apply tk22 | with_reducible apply tk23 | apply tk0 | apply tk1 | apply tk2 | apply tk3 | apply tk4 | apply tk5 | apply tk6 | apply tk7 | apply tk8 | apply tk9 | apply tk10 | apply tk11 | apply tk12 | apply tk13 | apply tk14 | apply tk15 | apply tk16 | apply tk17 | apply tk18 | apply tk19 | apply tk20 | apply tk21 | apply tk22 | apply tk23)); (first | done | fail)) ?_)); (first | done | fail)) : Wk P B r n (s :: rest) pd e S Q := by
  subst hjj
  have hkd := (T.at ht).kind
  rw [hk] at hkd
  obtain ⟨hu, ti, z, hi, hz, hzs, rfl, rfl⟩ := tiOf hzz hkd
  refine .anchor [] S (fun v L => ∃ g cap' zs, zs.length = c * ti.size ∧ c ≤ cap' ∧ v = .slice (some ⟨g, 0, none⟩) c cap' ∧ L = [sl (some ⟨g, 0, none⟩) c cap' ti.size zs]) hg hcl .nil (OpT_run (by simp [hop]) fun fr w hs => ?_) hl ?_
  · have hfc : (Builtin.firstCells ti.size 0 (.slice none 0 0)).run P w.drew = .ok ([] : List Value).toArray w.drew := by simp [Builtin.firstCells]
    have hm : maxLen = 9223372036854775807 := by decide
    have hrun := append_make_run (P := P) (w := w) (ty := s.o.type) (kx := kx) (i := 0) (cap := 0) (c := c) hu (K.at hK) hi hz hzs hfc (by simp) (by omega) (by omega) (by rw [Nat.zero_add]; exact hbb)
    rw [Nat.zero_add] at hrun
    have hcap : c ≤ grownCap w c 0 elem := grownCap_ge ..
    refine ⟨_, _, w.drew.alloc (.cells (([] : List Value).toArray ++ Builtin.zeroCells z.cells c ++ Builtin.zeroCells z.cells (grownCap w c 0 elem - c)) elem), ?_, ⟨w.heap.size, _, (Builtin.zeroCells z.cells c).toList, by simp [size_zeroCells, hzs], hcap, rfl, rfl⟩, ?_⟩
    · simp only [execOp, hop, resolve, Sem.run_bind, Sem.run_pure, Result.andThen_ok, invoke, builtin]
      have e1 : Array.map (ev e) #[x, y] = #[.slice none 0 0, .int kx c] := by simp [hx, hy]
      rw [e1, hrun]; rfl
    · have h1 := hs.drew.alloc (([] : List Value).toArray ++ Builtin.zeroCells z.cells c ++ Builtin.zeroCells z.cells (grownCap w c 0 elem - c)) elem
      have e2 : w.drew.heap.size = w.heap.size := rfl
      rw [e2] at h1
      refine h1.mono fun h H => ?_
      have h2 := seps_cons_mono (fun _ => seps_tail) H
      simp only [Array.toList_append, List.nil_append] at h2
      exact sl_close (us := (Builtin.zeroCells z.cells c).toList) (by simp [size_zeroCells, hzs]) hcap (by simp [size_zeroCells, hzs]) h h2
  · rintro v L ⟨g, cap', zs, h1, h2, rfl, rfl⟩; exact (k g cap' zs h1 h2).h
/-- To what has no room, of whatever place. -/
theorem A_appE (T : Tab P) {t : TypeId} {x y : Operand} {i : TI} {a a2 : Option Addr} {m c elem esz eb : Nat} {ez news : List Value} {ea : Bool} {R : List HProp}
    (k : ∀ a' cap', wf a' m cap' → WkR T B r n rest pd (updO e s.o.dst (.slice a' m cap')) (sl a' m cap' esz news :: sl a2 m c esz news :: R) Q) (ha : wf a 0 0)
    (hop : s.o.op = .call ⟨.builtin .append, #[x, y], #[t, t]⟩ := by rfl) (hg : wantedE e s.g = true := by rfl) (hcl : Nat.ble 2 s.cls = true := by rfl) (ht : lookT T.l t = some i := by rfl) (hk : i.kind = .slice elem esz eb ez ea := by rfl) (hsz : Nat.ble 1 esz = true := by rfl) (hzz : Nat.beq (mkV ea ez).cells.size esz = true := by rfl)
    (hx : ev e x = .slice a 0 0 := by rfl) (hy : ev e y = .slice a2 m c := by rfl) (hp : Pick S (sl a2 m c esz news) R := by with_reducible first | exact pk0 | exact pk1 | exact pk2 | exact pk3 | exact pk4 | exact pk5 | exact pk6 | exact pk7 | exact pk8 | exact pk9 | exact pk10 | exact pk11 | exact pk12 | exact pk13 | exact pk14 | exact pk15 | exact pk16 | exact pk17 | exact pk18 | exact pk19 | exact pk20 | exact pk21 | exact pk22 | exact pk23) (hsrc : Src B (sl a2 m c esz news) a2 m news := by first | exact .inr ⟨_, _, rfl, RdF_sl⟩ | exact Src_sl (by assumption)) (h1 : news.all one = true := by first | rfl | exact flat_all (by infer_instance) _ | assumption) (hl : locksOk pd R s.locks := by (repeat (first | exact locks_nil | refine locks_c rfl (by (repeat (first | exact Take.nil | with_reducible apply tk0 | with_reducible apply tk1 | with_reducible apply tk2 | with_reducible apply tk3 | with_reducible apply tk4 | with_reducible apply tk5 | with_reducible apply tk6 | with_reducible apply tk7 | with_reducible apply tk8 | with_reducible apply tk9 | with_reducible apply tk10 | with_reducible apply tk11 | with_reducible apply tk12 | with_reducible apply tk13 | with_reducible apply tk14 | with_reducible apply tk15 | with_reducible apply tk16 | with_reducible apply tk17 | with_reducible apply tk18 | with_reducible apply tk19 | with_reducible apply tk20 | with_reducible apply tk21 | with_reducible apply tk22 | with_reducible apply tk23 | apply tk0 | apply tk1 | apply tk2 | apply tk3 | apply tk4 | apply tk5 | apply tk6 | apply tk7 | apply tk8 | apply tk9 | apply tk10 | apply tk11 | apply tk12 | apply tk13 | apply tk14 | apply tk15 | apply tk16 | apply tk17 | apply tk18 | apply tk19 | apply tk20 | apply tk21 | apply tk22 | apply tk23)); (first | done | fail)) ?_)); (first | done | fail)) (hb : m ≤ 281474976710656 ∧ m * eb ≤ 140737488355328 := by first | omega | (dsimp only; omega) | (simp; done) | (simp at *; omega)) : Wk P B r n (s :: rest) pd e S Q := by
  refine .anchor [sl a2 m c esz news] R (fun v L => ∃ a' cap', wf a' m cap' ∧ v = .slice a' m cap' ∧ L = [sl a' m cap' esz news, sl a2 m c esz news]) hg hcl (.cons hp .nil) ?_ hl ?_
  · have := OpT_app (P := P) (B := B) (r := r) (n := n) (us := []) T hsrc (fun w R hs => (sl_len hs).1) h1 (by simpa using hb) hop ht hk hsz hzz hx hy
    rw [Nat.zero_add] at this
    intro fr w hs
    exact this fr w (hs.mono fun h H => sl_free ha h H)
  · rintro v L ⟨a', cap', hw, rfl, rfl⟩; exact (k a' cap' hw).h
/-! ### overlaps -/
/-- The library's look at two rows. -/
structure IsOv (P : Program) (f : FuncId) (t tR : TypeId) : Prop where
  ex : ∃ fn, P.funcs[f]? = some fn ∧ (fn.name == "runtime.NumGoroutine") = false ∧ fn.body.isNone = true ∧ Extern.findNext fn = none ∧ Extern.find fn = some (Extern.SlicesOverlaps.overlaps #[t, t] #[tR])
theorem ov_apart {w : World} {el : TypeId} {b1 o1 la c1 b2 o2 N cap q lb esz : Nat} {us1 us2 : List Value} {S : List HProp} (hs : Sat B w (sl (some ⟨b1, o1, none⟩) la c1 esz us1 :: sl (some ⟨b2, o2, none⟩) N cap esz us2 :: S))
    (hq : q + lb * esz ≤ N * esz) (h0 : ¬ (la = 0 ∨ lb = 0 ∨ esz = 0)) : (b1 = b2 → ¬ (o1 < o2 + q + lb * esz ∧ o2 + q < o1 + la * esz)) ∧
      (∃ t1 k1 t2 k2, w.shape? b1 = some (t1, k1) ∧ w.shape? b2 = some (t2, k2) ∧ k2 ≠ 0 ∧ (∀ o, w.frozen? ⟨b1, o, none⟩ = false)) := by
  obtain ⟨_, _, h, hw, h1, h2, g1, ⟨h3, h4, g2, _, _, s3, _⟩, d, s1, s2⟩ := hs
  obtain ⟨l1, w1, p1⟩ := g1
  obtain ⟨l2, w2, p2⟩ := g2
  obtain ⟨j1, hj1, pp1⟩ := p1 b1 o1 rfl
  obtain ⟨j2, hj2, pp2⟩ := p2 b2 o2 rfl
  have hpos1 : 0 < la * esz := Nat.mul_pos (by omega) (by omega)
  have hpos2 : 0 < lb * esz := Nat.mul_pos (by omega) (by omega)
  have c1 : ∀ i, i < la * esz → ∃ v, h1 b1 (some (o1 + i)) = some (.cell v) := fun i hi => ⟨_, pp1 i (us1[i]'(by omega)) (by rw [List.getElem?_append_left (by omega), List.getElem?_eq_getElem])⟩
  have c2 : ∀ i, i < N * esz → ∃ v, h2 b2 (some (o2 + i)) = some (.cell v) := fun i hi => ⟨_, s3 _ _ _ (pp2 i (us2[i]'(by omega)) (by rw [List.getElem?_append_left (by omega), List.getElem?_eq_getElem]))⟩
  refine ⟨?_, ?_⟩
  · rintro rfl ⟨ha, hb⟩
    obtain ⟨x, hx1, hx2, hx3, hx4⟩ : ∃ x, o1 ≤ x ∧ x < o1 + la * esz ∧ o2 + q ≤ x ∧ x < o2 + q + lb * esz := ⟨max o1 (o2 + q), by omega, by omega, by omega, by omega⟩
    obtain ⟨v1, e1⟩ := c1 (x - o1) (by omega)
    obtain ⟨v2, e2⟩ := c2 (x - o2) (by omega)
    rw [show o1 + (x - o1) = x by omega] at e1
    rw [show o2 + (x - o2) = x by omega] at e2
    rcases d b1 (some x) with e | e
    · rw [e1] at e; cases e
    · rw [e2] at e; cases e
  · obtain ⟨v1, e1⟩ := c1 0 hpos1
    obtain ⟨v2, e2⟩ := c2 0 (by omega)
    obtain ⟨_, ca, ta, ha, hca⟩ := hw _ _ _ (s1 _ _ _ e1)
    obtain ⟨_, cb, tb, hb, hcb⟩ := hw _ _ _ (s2 _ _ _ e2)
    refine ⟨ta, ca.size, tb, cb.size, by simp [World.shape?, ha], by simp [World.shape?, hb], ?_, fun o => by simp [World.frozen?, ha]⟩
    have := (Array.getElem?_eq_some_iff.1 hcb).1
    omega
theorem A_ov (T : Tab P) {f : FuncId} {t tR : TypeId} (hf : IsOv P f t tR) {x y : Operand} {ats : Array TypeId} {ii : TI} {b1 o1 la c1 ca b2 o2 N cap q lb cb elem esz eb : Nat} {ez us1 us2 : List Value} {ea : Bool} {R : List HProp}
    (k : WkR T B r n rest pd (updO e s.o.dst (.bool false)) (sl (some ⟨b1, o1, none⟩) la c1 esz us1 :: sl (some ⟨b2, o2, none⟩) N cap esz us2 :: R) Q)
    (hop : s.o.op = .call ⟨.value (.func f), #[x, y], ats⟩ := by rfl) (hg : wantedE e s.g = true := by rfl) (hcl : Nat.ble 2 s.cls = true := by rfl) (ht : lookT T.l t = some ii := by rfl) (hk : ii.kind = .slice elem esz eb ez ea := by rfl)
    (hx : ev e x = .slice (some ⟨b1, o1, none⟩) la ca := by rfl) (hy : ev e y = .slice (some ⟨b2, o2 + q, none⟩) lb cb := by rfl) (hp : Take S [sl (some ⟨b1, o1, none⟩) la c1 esz us1, sl (some ⟨b2, o2, none⟩) N cap esz us2] R := by (repeat (first | exact Take.nil | with_reducible apply tk0 | with_reducible apply tk1 | with_reducible apply tk2 | with_reducible apply tk3 | with_reducible apply tk4 | with_reducible apply tk5 | with_reducible apply tk6 | with_reducible apply tk7 | with_reducible apply tk8 | with_reducible apply tk9 | with_reducible apply tk10 | with_reducible apply tk11 | with_reducible apply tk12 | with_reducible apply tk13 | with_reducible apply tk14 | with_reducible apply tk15 | with_reducible apply tk16 | with_reducible apply tk17 | with_reducible apply tk18 | with_reducible apply tk19 | with_reducible apply tk20 | with_reducible apply tk21 | with_reducible apply tk22 | with_reducible apply tk23 | apply tk0 | apply tk1 | apply tk2 | apply tk3 | apply tk4 | apply tk5 | apply tk6 | apply tk7 | apply tk8 | apply tk9 | apply tk10 | apply tk11 | apply tk12 | apply tk13 | apply tk14 | apply tk15 | apply tk16 | apply tk17 | apply tk18 | apply tk19 | apply tk20 | apply tk21 | apply tk22 | apply tk23)); (first | done | fail)) (hl : locksOk pd R s.locks := by (repeat (first | exact locks_nil | refine locks_c rfl (by (repeat (first | exact Take.nil | with_reducible apply tk0 | with_reducible apply tk1 | with_reducible apply tk2 | with_reducible apply tk3 | with_reducible apply tk4 | with_reducible apply tk5 | with_reducible apply tk6 | with_reducible apply tk7 | with_reducible apply tk8 | with_reducible apply tk9 | with_reducible apply tk10 | with_reducible apply tk11 | with_reducible apply tk12 | with_reducible apply tk13 | with_reducible apply tk14 | with_reducible apply tk15 | with_reducible apply tk16 | with_reducible apply tk17 | with_reducible apply tk18 | with_reducible apply tk19 | with_reducible apply tk20 | with_reducible apply tk21 | with_reducible apply tk22 | with_reducible apply tk23 | apply tk0 | apply tk1 | apply tk2 | apply tk3 | apply tk4 | apply tk5 | apply tk6 | apply tk7 | apply tk8 | apply tk9 | apply tk10 | apply tk11 | apply tk12 | apply tk13 | apply tk14 | apply tk15 | apply tk16 | apply tk17 | apply tk18 | apply tk19 | apply tk20 | apply tk21 | apply tk22 | apply tk23)); (first | done | fail)) ?_)); (first | done | fail))
    (hq : q + lb * esz ≤ N * esz) : Wk P B r n (s :: rest) pd e S Q := by
  have hkd := (T.at ht).kind
  rw [hk] at hkd
  obtain ⟨hu, h2, h3, _⟩ := hkd
  obtain ⟨fn, f1, f2, f3, f4, f5⟩ := hf.ex
  refine .anchor [sl (some ⟨b1, o1, none⟩) la c1 esz us1, sl (some ⟨b2, o2, none⟩) N cap esz us2] R (fun v L => v = .bool false ∧ L = [sl (some ⟨b1, o1, none⟩) la c1 esz us1, sl (some ⟨b2, o2, none⟩) N cap esz us2]) hg hcl hp (OpT_run (by simp [hop]) fun fr w hs => ?_) hl ?_
  · refine ⟨_, _, w, ?_, ⟨rfl, rfl⟩, hs⟩
    have hov : (Extern.SlicesOverlaps.overlaps #[t, t] #[tR] #[.slice (some ⟨b1, o1, none⟩) la ca, .slice (some ⟨b2, o2 + q, none⟩) lb cb]).run P w = .ok (.bool false) w := by
      have hz : ∀ w, (Go.sizeOf elem).run P w = .ok esz w := fun w => by rw [run_sizeOf_ok h2, h3]
      by_cases h0 : la = 0 ∨ lb = 0 ∨ esz = 0
      · change Sem.run P (α := Value) (do
          let some t := (#[t, t] : Array TypeId)[0]? | stuck "slices.overlaps: no parameter types"
          let .slice elem ← underlying t | stuck "slices.overlaps: slice type expected"
          let size ← sizeOf elem
          match (some ⟨b1, o1, none⟩ : Option Addr), (some ⟨b2, o2 + q, none⟩ : Option Addr) with
          | some a, some b =>
            if la = 0 ∨ lb = 0 ∨ size = 0 then pure (Value.bool false)
            else if a.block != b.block && (← frozen a) && (← frozen b) then unsupported .addressObserved
            else do
              if a.block != b.block then do
                noView a; noView b
                if ← mayBeOne a b then return Value.bool ((← choose (.extern "sameAddr.stringBytes" 2)) == 1)
              pure (Value.bool (a.block == b.block && a.off < b.off + lb * size && b.off < a.off + la * size))
          | _, _ => pure (Value.bool false)) w = _
        simp [run_underlying hu, hz, h0]
      · obtain ⟨hsame, t1, k1, t2, k2, e1, e2, e3, e4⟩ := ov_apart (el := elem) (S := fr) hs hq h0
        by_cases hb : b1 = b2
        · have := hsame hb
          subst hb
          change Sem.run P (α := Value) (do
            let some t := (#[t, t] : Array TypeId)[0]? | stuck "slices.overlaps: no parameter types"
            let .slice elem ← underlying t | stuck "slices.overlaps: slice type expected"
            let size ← sizeOf elem
            match (some ⟨b1, o1, none⟩ : Option Addr), (some ⟨b1, o2 + q, none⟩ : Option Addr) with
            | some a, some b =>
              if la = 0 ∨ lb = 0 ∨ size = 0 then pure (Value.bool false)
              else if a.block != b.block && (← frozen a) && (← frozen b) then unsupported .addressObserved
              else do
                if a.block != b.block then do
                  noView a; noView b
                  if ← mayBeOne a b then return Value.bool ((← choose (.extern "sameAddr.stringBytes" 2)) == 1)
                pure (Value.bool (a.block == b.block && a.off < b.off + lb * size && b.off < a.off + la * size))
            | _, _ => pure (Value.bool false)) w = _
          simp [run_underlying hu, hz, h0]
          intro h
          omega
        · exact Go.Lib.run_overlaps_apart w t tR elem hu esz hz ⟨b1, o1, none⟩ ⟨b2, o2 + q, none⟩ la ca lb cb hb t1 t2 k1 k2 e1 e2 e3 (e4 _) (e4 _)
    have ha : #[x, y].map (ev e) = #[.slice (some ⟨b1, o1, none⟩) la ca, .slice (some ⟨b2, o2 + q, none⟩) lb cb] := by simp [hx, hy]
    simp only [execOp, hop, resolve, Sem.run_bind, Sem.run_pure, Result.andThen_ok, invoke, ev, Deferred.ofValue]
    have e1 : #[] ++ Array.map (ev e) #[x, y] ++ #[] = #[.slice (some ⟨b1, o1, none⟩) la ca, .slice (some ⟨b2, o2 + q, none⟩) lb cb] := by rw [ha]; simp
    rw [e1, run_callFunc_extern f1 f2 f3 f4 f5, hov]; rfl
  · rintro v L ⟨rfl, rfl⟩; exact k.h
end
/-! ### Rows that are put together -/
theorem splice_at : ∀ (A Z M : List Value), splice (A ++ Z) A.length M = A ++ (M ++ Z.drop M.length)
  | [], Z, M => by cases Z <;> rfl
  | a :: A, Z, M => by simp only [List.cons_append, List.length_cons, splice, splice_at A Z M]
theorem ins_grow {A M D Z : List Value} {k k2 : Nat} (hk : k = A.length) (hk2 : k2 = A.length + M.length) (hz : Z.length = M.length + D.length) : splice (splice (A ++ Z) k M) k2 D = A ++ M ++ D := by
  rw [hk, splice_at, ← List.append_assoc, hk2, ← List.length_append, splice_at, List.drop_drop, List.drop_of_length_le (by omega)]
  simp
theorem ins_room {A M D X : List Value} {k k2 : Nat} (hk : k = A.length) (hk2 : k2 = A.length + M.length) (hz : X.length = M.length + D.length) : splice (splice (A ++ X) k2 D) k M = A ++ M ++ D := by
  have h1 : A ++ X = (A ++ X.take M.length) ++ X.drop M.length := by rw [List.append_assoc, List.take_append_drop]
  have h2 : k2 = (A ++ X.take M.length).length := by rw [List.length_append, List.length_take, hk2]; omega
  rw [h1, h2, splice_at, List.drop_drop, List.drop_of_length_le (by omega), List.append_nil, List.append_assoc, hk, splice_at, List.drop_append, List.length_take, Nat.min_eq_left (by omega), Nat.sub_self, List.drop_zero, List.drop_of_length_le (by rw [List.length_take]; omega)]
  simp
end Go.Rz
