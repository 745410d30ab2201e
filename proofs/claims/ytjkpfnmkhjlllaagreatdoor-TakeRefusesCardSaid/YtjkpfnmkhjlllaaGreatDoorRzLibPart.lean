/- slices: the library's functions at this program's types. -/
import Derived.Test.YtjkpfnmkhjlllaaGreatDoorRzTree1
set_option linter.unusedVariables false
set_option linter.unusedSimpArgs false
open Go Go.Rz
set_option maxRecDepth 4000
namespace Go.Rz
/-- What a view knows from a point on. -/
structure Pv where
  f : Int
  node : Int
  ep : Int
def pvC (p : Pv) : List Value := [.int .u64 p.f, .int .i64 p.node, .int .i64 p.ep]
instance : Uni pvC 3 := ⟨fun _ => rfl, fun _ => rfl⟩
set_option maxHeartbeats 4000000 in
theorem Insert_grow_part {B : Base} {vb voff b off cap vc : Nat} {l ms : List Pv} {i : Nat} (hm0 : 0 < ms.length) (hbd : l.length + ms.length ≤ 1000000) (hvle : ms.length ≤ vc) (hlt : i < l.length) (hle : l.length ≤ cap) (hroom : cap < l.length + ms.length) :
    Fn PP B N.slices_Insert_part [.slice (some ⟨b, off, none⟩) l.length cap, .int .i64 i, .slice (some ⟨vb, voff, none⟩) ms.length vc] [sl (some ⟨b, off, none⟩) l.length cap 3 (flat pvC l), sl (some ⟨vb, voff, none⟩) ms.length vc 3 (flat pvC ms)]
    (fun v L => ∃ a' cap', wf a' (l.length + ms.length) cap' ∧ v = .slice a' (l.length + ms.length) cap' ∧ L = [sl a' (l.length + ms.length) cap' 3 (flat pvC (l.take i ++ ms ++ l.drop i)), sl (some ⟨vb, voff, none⟩) ms.length vc 3 (flat pvC ms)]) := by
  have hvw0 : wf (some ⟨vb, voff, none⟩) ms.length vc := .inr ⟨vb, voff, rfl, hvle⟩
  have hfl : (flat pvC l).length = l.length * 3 := flat_length (by infer_instance) l
  have hfm : (flat pvC ms).length = ms.length * 3 := flat_length (by infer_instance) ms
  have htk : (flat pvC l).take (i * 3) = flat pvC (l.take i) := flat_take (by infer_instance) l i
  have hdr : (flat pvC l).drop (i * 3) = flat pvC (l.drop i) := flat_drop (by infer_instance) l i
  have htl : (flat pvC (l.take i)).length = i * 3 := by rw [flat_length (by infer_instance)]; simp; omega
  have hdl : (flat pvC (l.drop i)).length = (l.length - i) * 3 := by rw [flat_length (by infer_instance)]; simp
  refine Fn_of N.slices_Insert_part_f rfl rfl fun fr => ?_
  try dsimp only [List.append_eq, List.cons_append, List.nil_append]
  repeat' (first | refine T_seq ?_ | refine T_regionR Tt (by kernel_rfl) ?_ | refine T_drawR Tt N.slices_Insert_part_d mixed (by kernel_rfl) ?_ | refine W_goN Tt rfl ?_ | refine W_nil ?_ | refine T_cond_true rfl ?_ | refine T_cond_false rfl ?_ | refine T_skip ?_ | refine T_ret ?_ | with_reducible refine R_then ?_ | with_reducible refine R_norm ?_ | refine A_cmpY Tt ?_ | refine A_cmpN Tt ?_ | refine A_addN Tt ?_ | refine A_subN Tt ?_ | refine A_addW Tt ?_ | refine A_subW Tt ?_ | (refine A_cmp Tt ?_ ?_ <;> intro hc) | (refine A_app Tt ?_; intro a cp hwf) | (refine A_appNil Tt ?_; intro a cp hwf) | refine A_cap Tt ?_ | (refine A_slcN Tt i l.length cap ?_) | (refine A_slc0N Tt i cap ?_) | (refine A_appMake Tt Kt (l.length + ms.length) (i := i) (ln := l.length) ⟨by omega, by omega, by omega, by omega⟩ ?_; intro g cap2 zs hz hc2) | (refine A_slcN Tt i (l.length + ms.length) cap2 ?_) | (refine A_slcN Tt (i + ms.length) (l.length + ms.length) cap2 ?_) | (refine A_copy Tt (b := g) (off := 0) (cap := cap2) (b2 := vb) (off2 := voff) (ln2 := ms.length) (cap2 := vc) (i := i) (j := 0) (ln := l.length + ms.length) (us := flat pvC ms) ?_ (ho := flat_all (by infer_instance) _) (hc := ⟨by omega, by omega, by omega⟩) (hq := .inr ⟨rfl, by omega⟩)) | (refine A_copy Tt (b := g) (off := 0) (cap := cap2) (b2 := b) (off2 := off) (ln2 := l.length) (cap2 := cap) (i := i + ms.length) (j := i) (ln := l.length + ms.length) (us := flat pvC l) ?_ (ho := flat_all (by infer_instance) _) (hc := ⟨by omega, by omega, by omega⟩) (hq := .inr ⟨rfl, rfl⟩)) | fail)
  have e : splice (splice ((flat pvC l).take (i * 3) ++ zs) (i * 3) ((flat pvC ms).drop (0 * 3))) ((i + ms.length) * 3) ((flat pvC l).drop (i * 3)) = flat pvC (l.take i ++ ms ++ l.drop i) := by
    rw [htk, hdr, Nat.zero_mul, List.drop_zero, flat_append, flat_append]
    exact ins_grow (by omega) (by omega) (by rw [hz, hfm, hdl, ← Nat.add_mul]; congr 1; omega)
  (change bodyQ PP _ [fr] _ _ _ _ _; refine ⟨rfl, _, _, _, (.tmp .nil), ⟨_, _, .inr ⟨_, _, rfl, hc2⟩, rfl, congrArg (fun x => [sl (some ⟨g, 0, none⟩) (l.length + ms.length) cap2 3 x, sl (some ⟨vb, voff, none⟩) ms.length vc 3 (flat pvC ms)]) e⟩, takeS⟩)
set_option maxHeartbeats 4000000 in
theorem Insert_room_part {B : Base} {vb voff b off cap vc : Nat} {l ms : List Pv} {i : Nat} (hm0 : 0 < ms.length) (hbd : l.length + ms.length ≤ 1000000) (hvle : ms.length ≤ vc) (hlt : i < l.length) (hle : l.length ≤ cap) (hroom : ¬ cap < l.length + ms.length) :
    Fn PP B N.slices_Insert_part [.slice (some ⟨b, off, none⟩) l.length cap, .int .i64 i, .slice (some ⟨vb, voff, none⟩) ms.length vc] [sl (some ⟨b, off, none⟩) l.length cap 3 (flat pvC l), sl (some ⟨vb, voff, none⟩) ms.length vc 3 (flat pvC ms)]
    (fun v L => ∃ a' cap', wf a' (l.length + ms.length) cap' ∧ v = .slice a' (l.length + ms.length) cap' ∧ L = [sl a' (l.length + ms.length) cap' 3 (flat pvC (l.take i ++ ms ++ l.drop i)), sl (some ⟨vb, voff, none⟩) ms.length vc 3 (flat pvC ms)]) := by
  have hvw0 : wf (some ⟨vb, voff, none⟩) ms.length vc := .inr ⟨vb, voff, rfl, hvle⟩
  have hfl : (flat pvC l).length = l.length * 3 := flat_length (by infer_instance) l
  have hfm : (flat pvC ms).length = ms.length * 3 := flat_length (by infer_instance) ms
  have htk : (flat pvC l).take (i * 3) = flat pvC (l.take i) := flat_take (by infer_instance) l i
  have hdr : (flat pvC l).drop (i * 3) = flat pvC (l.drop i) := flat_drop (by infer_instance) l i
  have htl : (flat pvC (l.take i)).length = i * 3 := by rw [flat_length (by infer_instance)]; simp; omega
  have hdl : (flat pvC (l.drop i)).length = (l.length - i) * 3 := by rw [flat_length (by infer_instance)]; simp
  refine Fn.pre ?_ (sl_extend (m := ms.length) (by omega))
  refine Fn.ex fun js => Fn.prop fun hjs => ?_
  refine Fn_of N.slices_Insert_part_f rfl rfl fun fr => ?_
  try dsimp only [List.append_eq, List.cons_append, List.nil_append]
  repeat' (first | refine T_seq ?_ | refine T_regionR Tt (by kernel_rfl) ?_ | refine T_drawR Tt N.slices_Insert_part_d mixed (by kernel_rfl) ?_ | refine W_goN Tt rfl ?_ | refine W_nil ?_ | refine T_cond_true rfl ?_ | refine T_cond_false rfl ?_ | refine T_skip ?_ | refine T_ret ?_ | with_reducible refine R_then ?_ | with_reducible refine R_norm ?_ | refine A_cmpY Tt ?_ | refine A_cmpN Tt ?_ | refine A_addN Tt ?_ | refine A_subN Tt ?_ | refine A_addW Tt ?_ | refine A_subW Tt ?_ | (refine A_cmp Tt ?_ ?_ <;> intro hc) | (refine A_app Tt ?_; intro a cp hwf) | (refine A_appNil Tt ?_; intro a cp hwf) | refine A_cap Tt ?_ | (refine A_slcN Tt i l.length cap ?_) | (refine A_slc0N Tt (l.length + ms.length) cap ?_) | (refine A_slcN Tt i (l.length + ms.length) cap ?_) | (refine A_slcN Tt (i + ms.length) (l.length + ms.length) cap ?_) | (refine A_ov Tt ov_part (b1 := vb) (o1 := voff) (b2 := b) (o2 := off) (c1 := vc) (cap := cap) (N := l.length + ms.length) (us2 := flat pvC l ++ js) ?_ (hq := by rw [← Nat.add_mul]; exact Nat.mul_le_mul_right _ (by omega))) | (refine A_copyIn Tt (b := b) (off := off) (cap := cap) (i := i + ms.length) (j := i) (c := l.length - i) (ln := l.length + ms.length) (us := flat pvC (l.drop i)) ?_ (hus := by rw [List.drop_append_of_le_length (by omega), hdr, List.take_left' hdl]) (ho := flat_all (by infer_instance) _) (hc := ⟨by omega, by omega, by omega⟩) (hq := .inr ⟨rfl, rfl⟩)) | (refine A_copy Tt (b := b) (off := off) (cap := cap) (b2 := vb) (off2 := voff) (ln2 := ms.length) (cap2 := vc) (i := i) (j := 0) (us := flat pvC ms) ?_ (ho := flat_all (by infer_instance) _) (hc := ⟨by omega, by omega, by omega⟩) (hq := .inr ⟨rfl, by omega⟩)) | fail)
  have e : splice (splice (flat pvC l ++ js) ((i + ms.length) * 3) (flat pvC (l.drop i))) (i * 3) ((flat pvC ms).drop (0 * 3)) = flat pvC (l.take i ++ ms ++ l.drop i) := by
    rw [Nat.zero_mul, List.drop_zero, flat_append, flat_append, show flat pvC l = flat pvC (l.take i) ++ flat pvC (l.drop i) by rw [← flat_append, List.take_append_drop], List.append_assoc]
    exact ins_room (by omega) (by omega) (by rw [List.length_append, hdl, hjs.1, hfm]; omega)
  (change bodyQ PP _ [fr] _ _ _ _ _; refine ⟨rfl, _, _, _, (.tmp .nil), ⟨_, _, .inr ⟨b, off, rfl, by omega⟩, rfl, congrArg (fun x => [sl (some ⟨b, off, none⟩) (l.length + ms.length) cap 3 x, sl (some ⟨vb, voff, none⟩) ms.length vc 3 (flat pvC ms)]) e⟩, takeS⟩)
theorem sp_Insert_part {B : Base} {a va : Option Addr} {cap vc : Nat} {l ms : List Pv} {i : Nat} : (wf a l.length cap ∧ wf va ms.length vc ∧ 0 < ms.length ∧ i ≤ l.length ∧ l.length + ms.length ≤ 1000000) →
    Fn PP B N.slices_Insert_part [.slice a l.length cap, .int .i64 i, .slice va ms.length vc] [sl a l.length cap 3 (flat pvC l), sl va ms.length vc 3 (flat pvC ms)]
    (fun v L => ∃ a' cap', wf a' (l.length + ms.length) cap' ∧ v = .slice a' (l.length + ms.length) cap' ∧ L = [sl a' (l.length + ms.length) cap' 3 (flat pvC (l.take i ++ ms ++ l.drop i)), sl va ms.length vc 3 (flat pvC ms)]) := by
  rintro ⟨hwf, hvw, hm0, hi, hbd⟩
  have hvw0 := hvw
  rcases hvw with ⟨_, h, _⟩ | ⟨vb, voff, rfl, hvle⟩
  · omega
  rcases Nat.eq_or_lt_of_le hi with hie | hlt
  · have e : flat pvC (l.take i ++ ms ++ l.drop i) = flat pvC l ++ flat pvC ms := by rw [List.take_of_length_le (by omega), List.drop_of_length_le (by omega)]; simp
    simp only [e]
    rcases hwf with ⟨rfl, h0, rfl⟩ | ⟨b, off, rfl, hle⟩
    · refine Fn_of N.slices_Insert_part_f rfl rfl fun fr => ?_
      try dsimp only [List.append_eq, List.cons_append, List.nil_append]
      repeat' (first | refine T_seq ?_ | refine T_regionR Tt (by kernel_rfl) ?_ | refine T_drawR Tt N.slices_Insert_part_d mixed (by kernel_rfl) ?_ | refine W_goN Tt rfl ?_ | refine W_nil ?_ | refine T_cond_true rfl ?_ | refine T_cond_false rfl ?_ | refine T_skip ?_ | refine T_ret ?_ | with_reducible refine R_then ?_ | with_reducible refine R_norm ?_ | refine A_cmpY Tt ?_ | refine A_cmpN Tt ?_ | refine A_addN Tt ?_ | refine A_subN Tt ?_ | refine A_addW Tt ?_ | refine A_subW Tt ?_ | (refine A_cmp Tt ?_ ?_ <;> intro hc) | (refine A_app Tt ?_; intro a cp hwf) | (refine A_appNil Tt ?_; intro a cp hwf) | refine A_cap Tt ?_ | (refine A_slcEN Tt i ?_) | fail)
      (change bodyQ PP _ [fr] _ _ _ _ _; refine ⟨rfl, _, _, _, (.tmp .nil), ⟨_, _, hwf, rfl, rfl⟩, takeS⟩)
    · by_cases hci : cap = i
      · refine Fn_of N.slices_Insert_part_f rfl rfl fun fr => ?_
        try dsimp only [List.append_eq, List.cons_append, List.nil_append]
        repeat' (first | refine T_seq ?_ | refine T_regionR Tt (by kernel_rfl) ?_ | refine T_drawR Tt N.slices_Insert_part_d mixed (by kernel_rfl) ?_ | refine W_goN Tt rfl ?_ | refine W_nil ?_ | refine T_cond_true rfl ?_ | refine T_cond_false rfl ?_ | refine T_skip ?_ | refine T_ret ?_ | with_reducible refine R_then ?_ | with_reducible refine R_norm ?_ | refine A_cmpY Tt ?_ | refine A_cmpN Tt ?_ | refine A_addN Tt ?_ | refine A_subN Tt ?_ | refine A_addW Tt ?_ | refine A_subW Tt ?_ | (refine A_cmp Tt ?_ ?_ <;> intro hc) | (refine A_app Tt ?_; intro a cp hwf) | (refine A_appNil Tt ?_; intro a cp hwf) | refine A_cap Tt ?_ | (refine A_slcEN Tt i ?_) | fail)
        (change bodyQ PP _ [fr] _ _ _ _ _; refine ⟨rfl, _, _, _, (.tmp .nil), ⟨_, _, hwf, rfl, rfl⟩, takeS⟩)
      · refine Fn_of N.slices_Insert_part_f rfl rfl fun fr => ?_
        try dsimp only [List.append_eq, List.cons_append, List.nil_append]
        repeat' (first | refine T_seq ?_ | refine T_regionR Tt (by kernel_rfl) ?_ | refine T_drawR Tt N.slices_Insert_part_d mixed (by kernel_rfl) ?_ | refine W_goN Tt rfl ?_ | refine W_nil ?_ | refine T_cond_true rfl ?_ | refine T_cond_false rfl ?_ | refine T_skip ?_ | refine T_ret ?_ | with_reducible refine R_then ?_ | with_reducible refine R_norm ?_ | refine A_cmpY Tt ?_ | refine A_cmpN Tt ?_ | refine A_addN Tt ?_ | refine A_subN Tt ?_ | refine A_addW Tt ?_ | refine A_subW Tt ?_ | (refine A_cmp Tt ?_ ?_ <;> intro hc) | (refine A_app Tt ?_; intro a cp hwf) | (refine A_appNil Tt ?_; intro a cp hwf) | refine A_cap Tt ?_ | (refine A_slcN Tt i l.length cap ?_) | fail)
        (change bodyQ PP _ [fr] _ _ _ _ _; refine ⟨rfl, _, _, _, (.tmp .nil), ⟨_, _, hwf, rfl, rfl⟩, takeS⟩)
  rcases hwf with ⟨rfl, h0, rfl⟩ | ⟨b, off, rfl, hle⟩
  · omega
  by_cases hroom : cap < l.length + ms.length
  · exact Insert_grow_part hm0 hbd hvle hlt hle hroom
  · exact Insert_room_part hm0 hbd hvle hlt hle hroom
end Go.Rz

