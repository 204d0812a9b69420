/-
  A part of the proof of KindsKeysUptoCardSaid: BkRef2, BkStrip, BkSettle, BkSettle2, BkWalk, BkWalk2, BkCheck, BkInt, BkAbs, BkPow, BkSplit, BkFloor, BkNear, BkNear2, BkHas, BkKeys, BkKeys2, BkKeys3, BkFacts, BkFacts2, BkNum, BkCarry, BkTrimO, BkCarryO.
  Conditions: those that each part names.
-/
import Derived.Test.YtegdndonafbcdaaGreatDoorKk12
set_option linter.unusedSimpArgs false
set_option linter.unusedVariables false
namespace Go.Proofs.Bv
open Go
def NV (l : List Int) : Nat := (nv l).toNat
theorem NV_drop {l : List Int} {k : Nat} {x : Int} (hL : Limbs l) (hx : l[k]? = some x) : NV (l.drop k) = NV (l.drop (k + 1)) * 4294967296 + x.toNat := by
  have hd : l.drop k = x :: l.drop (k + 1) := by
    rw [List.getElem?_eq_some_iff] at hx
    obtain ⟨h1, h2⟩ := hx
    rw [List.drop_eq_getElem_cons h1, h2]
  have h0 := hL x (List.mem_of_getElem? hx)
  have h1 : 0 ≤ nv (l.drop (k + 1)) := nv_nonneg fun c hc => hL c (List.mem_of_mem_drop hc)
  unfold NV
  rw [hd, nv]
  omega
theorem Limbs.drop {l : List Int} (h : Limbs l) (k : Nat) : Limbs (l.drop k) := fun c hc => h c (List.mem_of_mem_drop hc)
set_option maxHeartbeats 4000000 in
theorem pc166 (G : Nat → Option (List AV)) (l : List Int) (hl : l.length ≤ 256) (hL : Limbs l) : Pc (Cf G) 166 [.psl (u32s l) l.length] (.psl (i64s (digs (NV l))) (digs (NV l)).length) := by
  have w0 : IntKind.i64.wrap ((l.length : Int) - 1) = (l.length : Int) - 1 := i64 (by omega) (by omega)
  refine Pc_of (Gf_enter (C := Cf G) Tryz.func166 rfl ok166 (Nat.le_of_ble_eq_true rfl) ?_)
  simp only [Tryz.f166, Option.getD_some]
  refine wB1 w0 ?_
  refine Gc_loop_inv (fun m st => m ≤ l.length ∧ st.T 0 = .psl (u32s l) l.length ∧ st.T 4 = .sc (.int .i64 ((m : Int) - 1)) ∧ ((m = l.length ∧ st.T 3 = .nilS) ∨ st.T 3 = .psl (i64s (digs (NV (l.drop m)))) (digs (NV (l.drop m))).length)) ?_ l.length _ ⟨Nat.le_refl _, ?_⟩
  · rintro m ⟨T, h, n⟩ ⟨hm, h0, h4, h3⟩
    simp only at h0 h4 h3
    cases m with
    | zero =>
      have hge : ¬ (0 : Int) ≤ ((0 : Nat) : Int) - 1 := by omega
      rcases h3 with ⟨e, h3⟩ | h3
      · have e0 : l = [] := List.eq_nil_of_length_eq_zero e.symm
        subst e0
        refine wB1 (wa h0 (wa h3 (wa h4 hge))) ?_
        simp only [one1, frz_n, Option.map_some]
        simp [NV, nv, digs_zero, i64s]
      · refine wB1 (wa h0 (wa h3 (wa h4 hge))) ?_
        simp only [one1, frz_l, Option.map_some, List.drop_zero]
    | succ k =>
      have e0 : ((k + 1 : Nat) : Int) - 1 = (k : Int) := by omega
      rw [e0] at h4
      have hge : (0 : Int) ≤ (k : Int) := by omega
      have hlt : k < l.length := by omega
      obtain ⟨x, hx⟩ : ∃ x, l[k]? = some x := ⟨l[k]'(by omega), List.getElem?_eq_getElem (by omega)⟩
      have hx' := u32s_at hx
      have hxl := hL x (List.mem_of_getElem? hx)
      have wk : IntKind.i64.wrap ((k : Int) - 1) = (k : Int) - 1 := i64 (by omega) (by omega)
      have wx : IntKind.i64.wrap x = (x.toNat : Int) := by rw [i64 (by omega) (by omega)]; omega
      have hdl : (digs (NV (l.drop (k + 1)))).length ≤ 1000000 := by
        have := digs_nv (hL.drop (k + 1))
        simp only [List.length_drop] at this
        unfold NV
        omega
      have h229 := pc229 G (NV (l.drop (k + 1))) 4294967296 x.toNat (by omega) (by omega) hdl
      rw [← NV_drop hL hx] at h229
      have c32 : ((4294967296 : Nat) : Int) = 4294967296 := rfl
      rw [c32] at h229
      have fin : ∀ T' : Nat → AV, T' 0 = T 0 → T' 4 = .sc (.int .i64 ((k : Int) - 1)) → T' 3 = .psl (i64s (digs (NV (l.drop k)))) (digs (NV (l.drop k))).length → True := fun _ _ _ _ => trivial
      rcases h3 with ⟨e, h3⟩ | h3
      · have hz : NV (l.drop (k + 1)) = 0 := by
          rw [List.drop_of_length_le (by omega)]
          rfl
        rw [hz, digs_zero] at h229
        refine wC1 (wa h0 (wa h3 (wa h4 (wa hge (wa hlt (wa hx' (wa wx wk))))))) (wa h229 trivial) ?_
        refine ⟨k, by omega, by omega, ?_, ?_, .inr ?_⟩
        · simp only [vop, val, argsT, upd_ap, Nat.reduceEqDiff, if_true, if_false, ite_true, ite_false, reduceIte, loadAt, loadA, AV.cells, AV.one, List.all_cons, List.all_nil, ofV, ofCell, plain, List.getElem?_cons_zero, List.getElem?_cons_succ, List.getElem?_toArray, Option.getD_some, Bool.not_true, Bool.not_false, Bool.false_eq_true, Bool.and_true, Bool.true_and, Bool.and_self, Nat.zero_add, Option.map_some, Option.bind_some, List.map_cons, List.map_nil, ev_add, ev_sub, ev_mul, ev_lss, ev_leq, ev_gtr, ev_geq, ev_eql, ev_neq, ev_seql, ev_sneq, ev_sleq, ev_slss, ev_not, ev_min, ev_max, asNat_nat, asNat_zero, asNat_one, asNat_two, asNat_three, vb_len, List.length_cons, List.length_nil, Nat.reduceAdd, Nat.reduceLeDiff, Nat.reduceMul, Int.reduceEq, Int.reduceLT, Int.reduceLE, Int.reduceNeg, Int.reduceAdd, Int.reduceSub, Nat.reduceLT, decide_true, decide_false, not_true_eq_false, not_false_eq_true, and_self, and_true, true_and, storeA, List.take_zero, List.drop_succ_cons, List.drop_zero, List.nil_append, List.append_nil, List.take_succ_cons, List.cons_append, cut_cons, cut_zero, cut_skip, tAt, hHide, hAt, upsAt, List.contains_cons, List.contains_nil, Nat.reduceBEq, Bool.or_true, Bool.true_or, Bool.or_false, Bool.false_or, Bool.or_self, Bool.and_true, Bool.true_and, Bool.and_false, Bool.false_and, beq_self_eq_true (α := Nat), Option.some_beq_some, Option.none_beq_some, Option.some_beq_none, Bool.false_eq_true, List.all_nil, touch, touchB, Nat.sub_self, List.range'_zero, Nat.add_sub_cancel_left, List.range'_one, h0]
        · simp only [vop, val, argsT, upd_ap, Nat.reduceEqDiff, if_true, if_false, ite_true, ite_false, reduceIte, loadAt, loadA, AV.cells, AV.one, List.all_cons, List.all_nil, ofV, ofCell, plain, List.getElem?_cons_zero, List.getElem?_cons_succ, List.getElem?_toArray, Option.getD_some, Bool.not_true, Bool.not_false, Bool.false_eq_true, Bool.and_true, Bool.true_and, Bool.and_self, Nat.zero_add, Option.map_some, Option.bind_some, List.map_cons, List.map_nil, ev_add, ev_sub, ev_mul, ev_lss, ev_leq, ev_gtr, ev_geq, ev_eql, ev_neq, ev_seql, ev_sneq, ev_sleq, ev_slss, ev_not, ev_min, ev_max, asNat_nat, asNat_zero, asNat_one, asNat_two, asNat_three, vb_len, List.length_cons, List.length_nil, Nat.reduceAdd, Nat.reduceLeDiff, Nat.reduceMul, Int.reduceEq, Int.reduceLT, Int.reduceLE, Int.reduceNeg, Int.reduceAdd, Int.reduceSub, Nat.reduceLT, decide_true, decide_false, not_true_eq_false, not_false_eq_true, and_self, and_true, true_and, storeA, List.take_zero, List.drop_succ_cons, List.drop_zero, List.nil_append, List.append_nil, List.take_succ_cons, List.cons_append, cut_cons, cut_zero, cut_skip, tAt, hHide, hAt, upsAt, List.contains_cons, List.contains_nil, Nat.reduceBEq, Bool.or_true, Bool.true_or, Bool.or_false, Bool.false_or, Bool.or_self, Bool.and_true, Bool.true_and, Bool.and_false, Bool.false_and, beq_self_eq_true (α := Nat), Option.some_beq_some, Option.none_beq_some, Option.some_beq_none, Bool.false_eq_true, List.all_nil, touch, touchB, Nat.sub_self, List.range'_zero, Nat.add_sub_cancel_left, List.range'_one]
        · simp only [vop, val, argsT, upd_ap, Nat.reduceEqDiff, if_true, if_false, ite_true, ite_false, reduceIte, loadAt, loadA, AV.cells, AV.one, List.all_cons, List.all_nil, ofV, ofCell, plain, List.getElem?_cons_zero, List.getElem?_cons_succ, List.getElem?_toArray, Option.getD_some, Bool.not_true, Bool.not_false, Bool.false_eq_true, Bool.and_true, Bool.true_and, Bool.and_self, Nat.zero_add, Option.map_some, Option.bind_some, List.map_cons, List.map_nil, ev_add, ev_sub, ev_mul, ev_lss, ev_leq, ev_gtr, ev_geq, ev_eql, ev_neq, ev_seql, ev_sneq, ev_sleq, ev_slss, ev_not, ev_min, ev_max, asNat_nat, asNat_zero, asNat_one, asNat_two, asNat_three, vb_len, List.length_cons, List.length_nil, Nat.reduceAdd, Nat.reduceLeDiff, Nat.reduceMul, Int.reduceEq, Int.reduceLT, Int.reduceLE, Int.reduceNeg, Int.reduceAdd, Int.reduceSub, Nat.reduceLT, decide_true, decide_false, not_true_eq_false, not_false_eq_true, and_self, and_true, true_and, storeA, List.take_zero, List.drop_succ_cons, List.drop_zero, List.nil_append, List.append_nil, List.take_succ_cons, List.cons_append, cut_cons, cut_zero, cut_skip, tAt, hHide, hAt, upsAt, List.contains_cons, List.contains_nil, Nat.reduceBEq, Bool.or_true, Bool.true_or, Bool.or_false, Bool.false_or, Bool.or_self, Bool.and_true, Bool.true_and, Bool.and_false, Bool.false_and, beq_self_eq_true (α := Nat), Option.some_beq_some, Option.none_beq_some, Option.some_beq_none, Bool.false_eq_true, List.all_nil, touch, touchB, Nat.sub_self, List.range'_zero, Nat.add_sub_cancel_left, List.range'_one]
      · refine wC1 (wa h0 (wa h3 (wa h4 (wa hge (wa hlt (wa hx' (wa wx wk))))))) (wa h229 trivial) ?_
        refine ⟨k, by omega, by omega, ?_, ?_, .inr ?_⟩
        · simp only [vop, val, argsT, upd_ap, Nat.reduceEqDiff, if_true, if_false, ite_true, ite_false, reduceIte, loadAt, loadA, AV.cells, AV.one, List.all_cons, List.all_nil, ofV, ofCell, plain, List.getElem?_cons_zero, List.getElem?_cons_succ, List.getElem?_toArray, Option.getD_some, Bool.not_true, Bool.not_false, Bool.false_eq_true, Bool.and_true, Bool.true_and, Bool.and_self, Nat.zero_add, Option.map_some, Option.bind_some, List.map_cons, List.map_nil, ev_add, ev_sub, ev_mul, ev_lss, ev_leq, ev_gtr, ev_geq, ev_eql, ev_neq, ev_seql, ev_sneq, ev_sleq, ev_slss, ev_not, ev_min, ev_max, asNat_nat, asNat_zero, asNat_one, asNat_two, asNat_three, vb_len, List.length_cons, List.length_nil, Nat.reduceAdd, Nat.reduceLeDiff, Nat.reduceMul, Int.reduceEq, Int.reduceLT, Int.reduceLE, Int.reduceNeg, Int.reduceAdd, Int.reduceSub, Nat.reduceLT, decide_true, decide_false, not_true_eq_false, not_false_eq_true, and_self, and_true, true_and, storeA, List.take_zero, List.drop_succ_cons, List.drop_zero, List.nil_append, List.append_nil, List.take_succ_cons, List.cons_append, cut_cons, cut_zero, cut_skip, tAt, hHide, hAt, upsAt, List.contains_cons, List.contains_nil, Nat.reduceBEq, Bool.or_true, Bool.true_or, Bool.or_false, Bool.false_or, Bool.or_self, Bool.and_true, Bool.true_and, Bool.and_false, Bool.false_and, beq_self_eq_true (α := Nat), Option.some_beq_some, Option.none_beq_some, Option.some_beq_none, Bool.false_eq_true, List.all_nil, touch, touchB, Nat.sub_self, List.range'_zero, Nat.add_sub_cancel_left, List.range'_one, h0]
        · simp only [vop, val, argsT, upd_ap, Nat.reduceEqDiff, if_true, if_false, ite_true, ite_false, reduceIte, loadAt, loadA, AV.cells, AV.one, List.all_cons, List.all_nil, ofV, ofCell, plain, List.getElem?_cons_zero, List.getElem?_cons_succ, List.getElem?_toArray, Option.getD_some, Bool.not_true, Bool.not_false, Bool.false_eq_true, Bool.and_true, Bool.true_and, Bool.and_self, Nat.zero_add, Option.map_some, Option.bind_some, List.map_cons, List.map_nil, ev_add, ev_sub, ev_mul, ev_lss, ev_leq, ev_gtr, ev_geq, ev_eql, ev_neq, ev_seql, ev_sneq, ev_sleq, ev_slss, ev_not, ev_min, ev_max, asNat_nat, asNat_zero, asNat_one, asNat_two, asNat_three, vb_len, List.length_cons, List.length_nil, Nat.reduceAdd, Nat.reduceLeDiff, Nat.reduceMul, Int.reduceEq, Int.reduceLT, Int.reduceLE, Int.reduceNeg, Int.reduceAdd, Int.reduceSub, Nat.reduceLT, decide_true, decide_false, not_true_eq_false, not_false_eq_true, and_self, and_true, true_and, storeA, List.take_zero, List.drop_succ_cons, List.drop_zero, List.nil_append, List.append_nil, List.take_succ_cons, List.cons_append, cut_cons, cut_zero, cut_skip, tAt, hHide, hAt, upsAt, List.contains_cons, List.contains_nil, Nat.reduceBEq, Bool.or_true, Bool.true_or, Bool.or_false, Bool.false_or, Bool.or_self, Bool.and_true, Bool.true_and, Bool.and_false, Bool.false_and, beq_self_eq_true (α := Nat), Option.some_beq_some, Option.none_beq_some, Option.some_beq_none, Bool.false_eq_true, List.all_nil, touch, touchB, Nat.sub_self, List.range'_zero, Nat.add_sub_cancel_left, List.range'_one]
        · simp only [vop, val, argsT, upd_ap, Nat.reduceEqDiff, if_true, if_false, ite_true, ite_false, reduceIte, loadAt, loadA, AV.cells, AV.one, List.all_cons, List.all_nil, ofV, ofCell, plain, List.getElem?_cons_zero, List.getElem?_cons_succ, List.getElem?_toArray, Option.getD_some, Bool.not_true, Bool.not_false, Bool.false_eq_true, Bool.and_true, Bool.true_and, Bool.and_self, Nat.zero_add, Option.map_some, Option.bind_some, List.map_cons, List.map_nil, ev_add, ev_sub, ev_mul, ev_lss, ev_leq, ev_gtr, ev_geq, ev_eql, ev_neq, ev_seql, ev_sneq, ev_sleq, ev_slss, ev_not, ev_min, ev_max, asNat_nat, asNat_zero, asNat_one, asNat_two, asNat_three, vb_len, List.length_cons, List.length_nil, Nat.reduceAdd, Nat.reduceLeDiff, Nat.reduceMul, Int.reduceEq, Int.reduceLT, Int.reduceLE, Int.reduceNeg, Int.reduceAdd, Int.reduceSub, Nat.reduceLT, decide_true, decide_false, not_true_eq_false, not_false_eq_true, and_self, and_true, true_and, storeA, List.take_zero, List.drop_succ_cons, List.drop_zero, List.nil_append, List.append_nil, List.take_succ_cons, List.cons_append, cut_cons, cut_zero, cut_skip, tAt, hHide, hAt, upsAt, List.contains_cons, List.contains_nil, Nat.reduceBEq, Bool.or_true, Bool.true_or, Bool.or_false, Bool.false_or, Bool.or_self, Bool.and_true, Bool.true_and, Bool.and_false, Bool.false_and, beq_self_eq_true (α := Nat), Option.some_beq_some, Option.none_beq_some, Option.some_beq_none, Bool.false_eq_true, List.all_nil, touch, touchB, Nat.sub_self, List.range'_zero, Nat.add_sub_cancel_left, List.range'_one]
  · simp [upd_ap, argsT]
theorem pc196 (G : Nat → Option (List AV)) (l : List Int) (hl : l.length ≤ 140737488355328) : Pc (Cf G) 196 [.psl (u32s l) l.length] (.sc (.int .i64 (natChk l))) := by
  refine Pc_of (Gf_enter (C := Cf G) Tryz.func196 rfl ok196 (Nat.le_of_ble_eq_true rfl) ?_)
  simp only [Tryz.f196, Option.getD_some]
  rcases List.eq_nil_or_concat l with rfl | ⟨d, x, rfl⟩
  · refine wB1 (@u32s.eq_1) ?_
    all_goals simp_all [one1, frz_sc, natChk]
  · rw [List.concat_eq_append] at hl ⊢
    have h1 := len1 (d := d) (x := x) (by simp at hl; omega)
    have h2 := u32s_snoc d x
    have h3 : d.length < (d ++ [x]).length := by simp
    (focus refine wB4 (wa h1 (wa h2 h3)) ?_ ?_ ?_ ?_; intro hb; rotate_left; intro hb hb hb; rotate_left; intro hb hb hb; rotate_left; intro hb hb; rotate_left)
    all_goals clear h1 h2 h3
    all_goals simp_all [one1, frz_sc, natChk]
    all_goals omega
end Go.Proofs.Bv
namespace Go.Proofs.Bv
open Go
def dz : List Nat → List Nat
  | [] => []
  | d :: r => if d = 0 then dz r else d :: r
theorem dstr_last (r : List Nat) (d : Nat) : (dstr (r ++ [d])).data[r.length]? = some (dByte d) := by
  show ((r ++ [d]).map dByte).toArray[r.length]? = _
  simp
theorem dstr_emp {l : List Nat} (h : l ≠ []) : ((dstr l).toList == (ByteArray.mk #[]).toList) = false := by
  rw [dstr_nil]
  simp [h]
theorem dz_zero (r : List Nat) : dz (0 :: r) = dz r := by simp [dz]
theorem dz_pos {d : Nat} (h : d ≠ 0) (r : List Nat) : dz (d :: r) = d :: r := by simp [dz, h]
theorem ok291 : codeOk 23 (Tryz.f291.body.getD .skip) = true := by kernel_rfl
theorem ok239 : codeOk 37 (Tryz.f239.body.getD .skip) = true := by kernel_rfl
theorem ok119 : codeOk 6 (Tryz.f119.body.getD .skip) = true := by kernel_rfl
theorem ok238 : codeOk 6 (Tryz.f238.body.getD .skip) = true := by kernel_rfl
set_option maxHeartbeats 4000000 in
set_option maxRecDepth 100000 in
theorem pc291 (G : Nat → Option (List AV)) (l : List Nat) (hn : l.length ≤ 140737488355328) (h : ∀ d ∈ l, d < 10) : Pc (Cf G) 291 [.sc (.string (dstr l.reverse)), .sc (.int .u8 48)] (.sc (.string (dstr (dz l).reverse))) := by
  refine Pc_of (Gf_enter (C := Cf G) Tryz.func291 rfl ok291 (Nat.le_of_ble_eq_true rfl) ?_)
  simp only [Tryz.f291, Option.getD_some]
  refine wB1 trivial ?_
  refine Gc_loop_inv (fun m st => ∃ p r, l = p ++ r ∧ m = r.length ∧ dz r = dz l ∧ st.T 0 = .sc (.string (dstr r.reverse)) ∧ st.T 1 = .sc (.int .u8 48)) ?_ l.length _ ⟨[], l, rfl, rfl, rfl, ?_⟩
  · rintro m ⟨T, hh, n⟩ ⟨p, r, hpr, rfl, hdz, t0, t1⟩
    simp only at t0 t1
    have hrl : r.length ≤ l.length := by rw [hpr]; simp
    have hr : ∀ d ∈ r, d < 10 := fun d hd => h d (by rw [hpr]; simp [hd])
    cases r with
    | nil =>
      have s0 : (dstr ([] : List Nat).reverse).size = 0 := rfl
      refine wB1 (wa t0 (wa t1 s0)) ?_
      simp only [one1, frz_s, Option.map_some, ← hdz, dz]
    | cons d r =>
      have s1 : (dstr (d :: r).reverse).size = r.length + 1 := by rw [dstr_size]; simp
      have hgt : (0 : Int) < ((r.length + 1 : Nat) : Int) := by omega
      have w1 : IntKind.i64.wrap (((r.length + 1 : Nat) : Int) - 1) = (r.length : Int) := by rw [i64 (by simp only [List.length_cons] at hrl; omega) (by simp only [List.length_cons] at hrl; omega)]; omega
      have hat : (dstr (d :: r).reverse).data[r.length]? = some (dByte d) := by
        have := dstr_last r.reverse d
        rw [List.length_reverse] at this
        rw [List.reverse_cons]
        exact this
      have hdn := dByte_nat (hr d (by simp))
      by_cases hd : d = 0
      · subst hd
        have e48 : (((dByte 0).toNat : Int) = 48) = True := by rw [hdn]; simp
        have b1 := bnds_hi (len := r.length + 1) (k := r.length) (by omega)
        have x1 : (dstr (0 :: r).reverse).extract 0 r.length = dstr r.reverse := by
          rw [dstr_cut, List.reverse_cons, List.drop_zero]
          rw [List.take_append_of_le_length (by simp), List.take_of_length_le (by simp)]
        refine wB1 (wa t0 (wa t1 (wa s1 (wa hgt (wa w1 (wa hat (wa @e48 (wa b1 x1)))))))) ?_
        refine ⟨r.length, by simp, p ++ [0], r, by simp [hpr], rfl, by rw [← hdz, dz_zero], ?_⟩
        simp [upd_ap, t1]
      · have e48 : ¬ ((dByte d).toNat : Int) = 48 := by rw [hdn]; omega
        refine wB1 (wa t0 (wa t1 (wa s1 (wa hgt (wa w1 (wa hat @e48)))))) ?_
        simp only [one1, frz_s, Option.map_some, ← hdz, dz_pos hd]
  · simp [upd_ap, argsT]
theorem s48 : (ByteArray.mk #[48]).size = 1 := rfl
theorem a48 : (ByteArray.mk #[48]).data[0]? = some 48 := rfl
theorem n48 : ((48 : UInt8).toNat : Int) = 48 := rfl
theorem e48 : ((ByteArray.mk #[48]).toList == (ByteArray.mk #[]).toList) = false := by rw [ByteArray.toList_eq, ByteArray.toList_eq]; rfl
set_option maxRecDepth 100000 in
theorem pc239 (G : Nat → Option (List AV)) (l : List Nat) (h0 : l ≠ []) (hn : l.length ≤ 140737488355328) (h : ∀ d ∈ l, d < 10) : Pc (Cf G) 239 [.sc (.string (dstr l.reverse)), .sc (.string ⟨#[48]⟩)] (.sc (.string (dstr (dz l).reverse))) := by
  have hc := pc291 G l hn h
  have hne := dstr_emp (l := l.reverse) (by simpa using h0)
  refine Pc_of (Gf_enter (C := Cf G) Tryz.func239 rfl ok239 (Nat.le_of_ble_eq_true rfl) ?_)
  simp only [Tryz.f239, Option.getD_some]
  refine wC1 (wa hne (wa @e48 (wa @s48 (wa @a48 (wa @n48 @Int.natCast_one))))) (wa hc trivial) ?_
  simp only [one1, frz_s, Option.map_some]
theorem pc119 (G : Nat → Option (List AV)) (cs : List AV) (len : Nat) (e : Int) : Pc (Cf G) 119 [.psl cs len, .sc (.int .i64 e)] (.psl cs len) := by
  refine Pc_of (Gf_enter (C := Cf G) Tryz.func119 rfl ok119 (Nat.le_of_ble_eq_true rfl) ?_)
  simp only [Tryz.f119, Option.getD_some]
  refine wB1 trivial ?_
  simp only [one1, frz_l, Option.map_some]
theorem pc238 (G : Nat → Option (List AV)) (s : ByteArray) (e : Int) : Pc (Cf G) 238 [.sc (.string s), .sc (.int .i64 e)] (.sc (.string s)) := by
  refine Pc_of (Gf_enter (C := Cf G) Tryz.func238 rfl ok238 (Nat.le_of_ble_eq_true rfl) ?_)
  simp only [Tryz.f238, Option.getD_some]
  refine wB1 trivial ?_
  simp only [one1, frz_s, Option.map_some]
end Go.Proofs.Bv
namespace Go.Proofs.Bv
open Go
def stripN (n : Nat) : Nat := if h : n = 0 then 0 else if n % 10 = 0 then stripN (n / 10) else n
termination_by n
decreasing_by omega
def tzN (n : Nat) : Nat := if h : n = 0 then 0 else if n % 10 = 0 then tzN (n / 10) + 1 else 0
termination_by n
decreasing_by omega
theorem strip_zero {n : Nat} (h0 : 0 < n) (h : n % 10 = 0) : stripN n = stripN (n / 10) ∧ tzN n = tzN (n / 10) + 1 := by
  constructor
  · rw [stripN, dif_neg (by omega), if_pos h]
  · rw [tzN, dif_neg (by omega), if_pos h]
theorem strip_pos {n : Nat} (h0 : 0 < n) (h : n % 10 ≠ 0) : stripN n = n ∧ tzN n = 0 := by
  constructor
  · rw [stripN, dif_neg (by omega), if_neg h]
  · rw [tzN, dif_neg (by omega), if_neg h]
theorem strip_digs (n : Nat) : dz (digs n) = digs (stripN n) ∧ (digs n).length = (digs (stripN n)).length + tzN n ∧ n = stripN n * 10 ^ tzN n := by
  induction n using Nat.strongRecOn with
  | ind n ih =>
    rcases Nat.eq_zero_or_pos n with rfl | h0
    · rw [stripN, tzN, digs_zero]
      simp [dz, digs_zero]
    · by_cases h : n % 10 = 0
      · obtain ⟨e1, e2⟩ := strip_zero h0 h
        obtain ⟨i1, i2, i3⟩ := ih (n / 10) (by omega)
        rw [e1, e2, digs_pos h0, h, dz_zero, List.length_cons]
        refine ⟨i1, by omega, ?_⟩
        rw [Nat.pow_succ, ← Nat.mul_assoc, ← i3]
        omega
      · obtain ⟨e1, e2⟩ := strip_pos h0 h
        rw [e1, e2, digs_pos h0, dz_pos h]
        simp
theorem strip_ne {n : Nat} (h0 : 0 < n) : 0 < stripN n ∧ stripN n % 10 ≠ 0 := by
  induction n using Nat.strongRecOn with
  | ind n ih =>
    by_cases h : n % 10 = 0
    · rw [(strip_zero h0 h).1]
      exact ih (n / 10) (by omega) (by omega)
    · rw [(strip_pos h0 h).1]
      exact ⟨h0, h⟩
theorem mv_rev : (l : List Nat) → mv l.reverse = dv l
  | [] => rfl
  | d :: l => by
    rw [List.reverse_cons, mv_app, mv_rev l]
    simp [mv, dv]
    omega
theorem decStr_d {n : Nat} (h : 0 < n) : decStr n = dstr (digs n).reverse := by
  unfold decStr dstr
  rw [if_neg (by omega)]
theorem natChk_lim {n : Nat} (h : (lim n).length ≤ 256) : natChk (lim n) = 0 := by
  unfold natChk
  rw [if_neg (by omega), if_neg]
  intro e
  exact lim_top n 0 e rfl
theorem lim_digs {n k : Nat} (h : (digs n).length ≤ k) : (lim n).length ≤ k := by
  refine lim_len k n ?_
  have e := dv_digs n
  have : ∀ l : List Nat, (∀ d ∈ l, d < 10) → dv l < 10 ^ l.length := by
    intro l
    induction l with
    | nil => intro _; simp [dv]
    | cons d l ih =>
      intro hl
      have h1 := ih fun x hx => hl x (by simp [hx])
      have h2 := hl d (by simp)
      simp only [dv, List.length_cons, Nat.pow_succ]
      omega
  have h2 := this (digs n) (digs_lt n)
  rw [e] at h2
  exact Nat.lt_of_lt_of_le h2 (Nat.pow_le_pow_right (by omega) h)
def encD (ng : Bool) (n : Nat) (ex : Int) : List AV := [.sc (.bool ng), .psl (u32s (lim n)) (lim n).length, .sc (.int .i64 ex)]
theorem ok184 : codeOk 8 (Tryz.f184.body.getD .skip) = true := by kernel_rfl
theorem ok185 : codeOk 39 (Tryz.f185.body.getD .skip) = true := by kernel_rfl
theorem ok121 : codeOk 30 (Tryz.f121.body.getD .skip) = true := by kernel_rfl
theorem ok101 : codeOk 23 (Tryz.f101.body.getD .skip) = true := by kernel_rfl
theorem ok103 : codeOk 31 (Tryz.f103.body.getD .skip) = true := by kernel_rfl
theorem pc184 (G : Nat → Option (List AV)) (ng : Bool) (n : Nat) (ex : Int) : Pc (Cf G) 184 [.agg (encD ng n ex)] (.sc (.bool (decide (n = 0)))) := by
  have e : decide (((lim n).length : Int) = 0) = decide (n = 0) := by
    rw [decide_eq_decide]
    constructor
    · intro h
      exact lim_nil.1 (List.eq_nil_of_length_eq_zero (by omega))
    · rintro rfl
      rw [lim_zero]
      rfl
  unfold encD
  refine Pc_of (Gf_enter (C := Cf G) Tryz.func184 rfl ok184 (Nat.le_of_ble_eq_true rfl) ?_)
  simp only [Tryz.f184, Option.getD_some]
  refine wB1 e ?_
  simp only [one1, frz_s, Option.map_some]
set_option maxHeartbeats 4000000 in
set_option maxRecDepth 100000 in
theorem pc185 (G : Nat → Option (List AV)) (ng : Bool) (n : Nat) (ex : Int) (h0 : 0 < n) (hl : (lim n).length ≤ 256) (hd : (digs n).length ≤ 2400) (hx : -1000000 ≤ ex ∧ ex ≤ 1000000) :
    Pc (Cf G) 185 [.agg (encD ng n ex)] (.agg (encD ng (stripN n) (ex + tzN n))) := by
  obtain ⟨s1, s2, s3⟩ := strip_digs n
  obtain ⟨p1, p2⟩ := strip_ne h0
  have h1 := pc223 G (lim n) (natChk_lim hl) (lim_limbs n)
  rw [nv_lim, Int.toNat_natCast, decStr_d h0] at h1
  have hne : digs n ≠ [] := fun e => by rw [digs_nil] at e; omega
  have hne2 : digs (stripN n) ≠ [] := fun e => by rw [digs_nil] at e; omega
  have h2 := pc238 G (dstr (digs n).reverse) 0
  have h3 := pc239 G (digs n) hne (by omega) (digs_lt n)
  rw [s1] at h3
  have h4 := pc120 G (digs (stripN n)).reverse (by simpa using hne2) (by rw [List.length_reverse]; omega) (fun d hd' => digs_lt (stripN n) d (by simpa using hd'))
  rw [mv_rev, dv_digs] at h4
  have h5 := pc119 G (u32s (lim (stripN n))) (lim (stripN n)).length 0
  have z1 : (dstr (digs n).reverse).size = (digs n).length := by rw [dstr_size, List.length_reverse]
  have z2 : (dstr (digs (stripN n)).reverse).size = (digs (stripN n)).length := by rw [dstr_size, List.length_reverse]
  unfold lsl at h4
  unfold encD
  refine Pc_of (Gf_enter (C := Cf G) Tryz.func185 rfl ok185 (Nat.le_of_ble_eq_true rfl) ?_)
  simp only [Tryz.f185, Option.getD_some]
  by_cases ht : tzN n = 0
  · have e1 : (((digs (stripN n)).length : Int) = ((digs n).length : Int)) = True := by rw [s2, ht]; simp
    have e2 : stripN n = n := by rw [ht] at s3; simpa using s3.symm
    refine wC1 (wa z1 (wa z2 e1)) (wa h1 (wa h2 (wa h3 trivial))) ?_
    rw [e2, ht]
    simp only [one1, frz_a, mapF, frz_s, frz_l, Option.map_some, Int.natCast_zero, Int.add_zero, List.append_nil]
  · have e1 : ¬ ((digs (stripN n)).length : Int) = ((digs n).length : Int) := by omega
    have w1 : IntKind.i64.wrap (((digs n).length : Int) - ((digs (stripN n)).length : Int)) = (tzN n : Int) := by rw [i64 (by omega) (by omega)]; omega
    have w2 : IntKind.i64.wrap (ex + (tzN n : Int)) = ex + (tzN n : Int) := i64 (by omega) (by omega)
    refine wC1 (wa z1 (wa z2 (wa e1 (wa w1 w2)))) (wa h1 (wa h2 (wa h3 (wa h4 (wa h5 trivial))))) ?_
    simp only [one1, frz_a, mapF, frz_s, frz_l, Option.map_some, List.append_nil]
def settleD (ng : Bool) (n : Nat) (ex : Int) : (Bool × Nat × Int) × Int :=
  if n = 0 then ((false, 0, 0), 0)
  else if 300 < (digs (stripN n)).length then ((false, 0, 0), 51)
  else if ex + tzN n < -1000 ∨ 1000 < ex + tzN n then ((false, 0, 0), 52)
  else ((ng, stripN n, ex + tzN n), 0)
end Go.Proofs.Bv
namespace Go.Proofs.Bv
open Go
def encR (r : (Bool × Nat × Int) × Int) : AV := .tup [.agg (encD r.1.1 r.1.2.1 r.1.2.2), .sc (.int .i64 r.2)]
theorem strip_le (n : Nat) : (digs (stripN n)).length ≤ (digs n).length := by
  have := (strip_digs n).2.1
  omega
theorem tz_le (n : Nat) : tzN n ≤ (digs n).length := by
  have := (strip_digs n).2.1
  omega
set_option maxHeartbeats 4000000 in
set_option maxRecDepth 100000 in
theorem pc121 (G : Nat → Option (List AV)) (ng : Bool) (n : Nat) (ex : Int) (hl : (lim n).length ≤ 256) (hd : (digs n).length ≤ 2400) (hx : -1000000 ≤ ex ∧ ex ≤ 1000000) :
    Pc (Cf G) 121 [.agg (encD ng n ex)] (encR (settleD ng n ex)) := by
  have h1 := pc184 G ng n ex
  have z0 : u32s (lim 0) = [] := by rw [lim_zero]; rfl
  have z1 : (lim 0).length = 0 := by rw [lim_zero]; rfl
  unfold settleD
  by_cases h0 : n = 0
  · subst h0
    rw [if_pos rfl]
    unfold encR
    unfold encD at h1 ⊢
    rw [z0, z1] at h1 ⊢
    refine Pc_of (Gf_enter (C := Cf G) Tryz.func121 rfl ok121 (Nat.le_of_ble_eq_true rfl) ?_)
    simp only [Tryz.f121, Option.getD_some]
    refine wC1 trivial (wa h1 trivial) ?_
    simp only [one1, frz_t, frz_a, frz_n, mapF, frz_s, frz_l, Option.map_some, List.append_nil] <;> rfl
  · have h2 := pc185 G ng n ex (by omega) hl hd hx
    have hs := strip_le n
    have hz := tz_le n
    have hl2 : (lim (stripN n)).length ≤ 256 := by
      obtain ⟨_, _, e⟩ := strip_digs n
      have : stripN n ≤ n := by
        conv => rhs; rw [e]
        exact Nat.le_mul_of_pos_right _ (Nat.pow_pos (by omega))
      exact Nat.le_trans (lim_mono this) hl
    have h3 := pc162 G (lim (stripN n)) (natChk_lim hl2) (lim_limbs _)
    unfold nDig at h3
    rw [nv_lim, Int.toNat_natCast] at h3
    rw [if_neg h0]
    unfold encD at h1 h2
    by_cases c1 : 300 < (digs (stripN n)).length
    · rw [if_pos c1]
      have c1' : (300 : Int) < ((digs (stripN n)).length : Int) := by omega
      unfold encR encD
      rw [z0, z1]
      refine Pc_of (Gf_enter (C := Cf G) Tryz.func121 rfl ok121 (Nat.le_of_ble_eq_true rfl) ?_)
      simp only [Tryz.f121, Option.getD_some]
      try simp only [encD]
      refine wC1 (wa h0 c1') (wa h1 (wa h2 (wa h3 trivial))) ?_
      simp only [one1, frz_t, frz_a, frz_n, mapF, frz_s, frz_l, Option.map_some, List.append_nil] <;> rfl
    · rw [if_neg c1]
      have c1' : ¬ (300 : Int) < ((digs (stripN n)).length : Int) := by omega
      by_cases c2 : ex + tzN n < -1000
      · rw [if_pos (.inl c2)]
        unfold encR encD
        rw [z0, z1]
        refine Pc_of (Gf_enter (C := Cf G) Tryz.func121 rfl ok121 (Nat.le_of_ble_eq_true rfl) ?_)
        simp only [Tryz.f121, Option.getD_some]
        try simp only [encD]
        refine wC1 (wa h0 (wa c1' c2)) (wa h1 (wa h2 (wa h3 trivial))) ?_
        simp only [one1, frz_t, frz_a, frz_n, mapF, frz_s, frz_l, Option.map_some, List.append_nil] <;> rfl
      · by_cases c3 : 1000 < ex + tzN n
        · rw [if_pos (.inr c3)]
          unfold encR encD
          rw [z0, z1]
          refine Pc_of (Gf_enter (C := Cf G) Tryz.func121 rfl ok121 (Nat.le_of_ble_eq_true rfl) ?_)
          simp only [Tryz.f121, Option.getD_some]
          try simp only [encD]
          refine wC1 (wa h0 (wa c1' (wa c2 @c3))) (wa h1 (wa h2 (wa h3 trivial))) ?_
          simp only [one1, frz_t, frz_a, frz_n, mapF, frz_s, frz_l, Option.map_some, List.append_nil] <;> rfl
        · rw [if_neg (by omega)]
          unfold encR encD
          refine Pc_of (Gf_enter (C := Cf G) Tryz.func121 rfl ok121 (Nat.le_of_ble_eq_true rfl) ?_)
          simp only [Tryz.f121, Option.getD_some]
          try simp only [encD]
          refine wC1 (wa h0 (wa c1' (wa c2 @c3))) (wa h1 (wa h2 (wa h3 trivial))) ?_
          simp only [one1, frz_t, frz_a, frz_n, mapF, frz_s, frz_l, Option.map_some, List.append_nil]
end Go.Proofs.Bv
namespace Go.Proofs.Bv
open Go
theorem ok144 : codeOk 19 (Tryz.f144.body.getD .skip) = true := by kernel_rfl
theorem ok88 : codeOk 9 (Tryz.f88.body.getD .skip) = true := by kernel_rfl
theorem ok152 : codeOk 15 (Tryz.f152.body.getD .skip) = true := by kernel_rfl
theorem ok219 : codeOk 8 (Tryz.f219.body.getD .skip) = true := by kernel_rfl
theorem ok151 : codeOk 6 (Tryz.f151.body.getD .skip) = true := by kernel_rfl
theorem ok95 : codeOk 4 (Tryz.f95.body.getD .skip) = true := by kernel_rfl
mutual
def pre : JV → List JV
  | .mk k ng cf ex t l ks => .mk k ng cf ex t l ks :: pres l
def pres : List JV → List JV
  | [] => []
  | x :: r => pre x ++ pres r
end
theorem pres_app : (a b : List JV) → pres (a ++ b) = pres a ++ pres b
  | [], b => by simp [pres]
  | x :: a, b => by simp only [List.cons_append, pres, pres_app a b, List.append_assoc]
set_option maxHeartbeats 2000000 in
theorem gf144 (G : Nat → Option (List AV)) (l : List JV) (hl : l.length ≤ 140737488355328) (g : FuncId) (caps : List AV) (I : List JV → Heap → Nat → Prop) (Q : AV → Heap → Nat → Prop)
    (hcall : ∀ d x r h n (K : AV → Heap → Nat → Prop), l = d ++ x :: r → I d h n → (∀ h' n', n ≤ n' → I (d ++ [x]) h' n' → K (.sc (.bool false)) h' n') → (∀ h' n', n ≤ n' → Q (.sc (.int .i64 d.length)) h' n' → K (.sc (.bool true)) h' n') →
      Wk (Cf G) (.fn (.func g) caps) [.agg (enc x)] h n K)
    (hend : ∀ h n, I l h n → Q (.sc (.int .i64 (-1))) h n) {h : Heap} {n : Nat} (hI : I [] h n) : Gf (Cf G) 144 [.psl (encs l) l.length, .fn (.func g) caps] h n Q := by
  refine Gf_enter (C := Cf G) Tryz.func144 rfl ok144 (Nat.le_of_ble_eq_true rfl) ?_
  simp only [Tryz.f144, Option.getD_some]
  refine wB1 trivial ?_
  refine Gc_loop_inv (fun m st => ∃ d r, l = d ++ r ∧ m = r.length ∧ st.T 0 = .psl (encs l) l.length ∧ st.T 1 = .fn (.func g) caps ∧ st.T 7 = .sc (.int .i64 l.length) ∧ st.T 8 = .sc (.int .i64 d.length) ∧ I d st.h st.n) ?_ l.length _ ⟨[], l, rfl, rfl, ?_⟩
  · rintro m ⟨T, h, n⟩ ⟨d, r, hdr, rfl, h0, h1, h7, h8, hI⟩
    simp only at h0 h1 h7 h8 hI
    cases r with
    | nil =>
      have e : d = l := by simp [hdr]
      subst e
      have hge : ¬ (d.length : Int) < (d.length : Int) := by omega
      refine wB1 (wa h0 (wa h1 (wa h7 (wa h8 hge)))) ?_
      exact hend _ _ hI
    | cons x r =>
      have hlt : (d.length : Int) < (l.length : Int) := by rw [hdr]; simp; omega
      have hltn : d.length < l.length := by omega
      have hcut : cut (encs l) (d.length * 7) 7 = enc x := by rw [hdr]; exact cut_encs d x r
      have hle : d.length * 7 + 7 ≤ (encs l).length := by rw [encs_len]; omega
      have w1 : IntKind.i64.wrap ((d.length : Int) + 1) = (d.length : Int) + 1 := i64 (by omega) (by omega)
      refine wB1 (wa h0 (wa h1 (wa h7 (wa h8 (wa hlt (wa hltn (wa hcut hle))))))) ?_
      refine st_wk rfl rfl (by simp only [vop, val, argsT, upd_ap, Nat.reduceEqDiff, if_true, if_false, ite_true, ite_false, reduceIte, loadAt, loadA, AV.cells, AV.one, List.all_cons, List.all_nil, ofV, ofCell, plain, List.getElem?_cons_zero, List.getElem?_cons_succ, List.getElem?_toArray, Option.getD_some, Bool.not_true, Bool.not_false, Bool.false_eq_true, Bool.and_true, Bool.true_and, Bool.and_self, Nat.zero_add, Option.map_some, Option.bind_some, List.map_cons, List.map_nil, ev_add, ev_sub, ev_mul, ev_lss, ev_leq, ev_gtr, ev_geq, ev_eql, ev_neq, ev_seql, ev_sneq, ev_sleq, ev_slss, ev_not, ev_min, ev_max, asNat_nat, asNat_zero, asNat_one, asNat_two, asNat_three, vb_len, List.length_cons, List.length_nil, Nat.reduceAdd, Nat.reduceLeDiff, Nat.reduceMul, Int.reduceEq, Int.reduceLT, Int.reduceLE, Int.reduceNeg, Int.reduceAdd, Int.reduceSub, Nat.reduceLT, decide_true, decide_false, not_true_eq_false, not_false_eq_true, and_self, and_true, true_and, storeA, List.take_zero, List.drop_succ_cons, List.drop_zero, List.nil_append, List.append_nil, List.take_succ_cons, List.cons_append, cut_cons, cut_zero, cut_skip, tAt, hHide, hAt, upsAt, List.contains_cons, List.contains_nil, Nat.reduceBEq, Bool.or_true, Bool.true_or, Bool.or_false, Bool.false_or, Bool.or_self, Bool.and_true, Bool.true_and, Bool.and_false, Bool.false_and, beq_self_eq_true (α := Nat), Option.some_beq_some, Option.none_beq_some, Option.some_beq_none, Bool.false_eq_true, List.all_nil, touch, touchB, Nat.sub_self, List.range'_zero, Nat.add_sub_cancel_left, List.range'_one, h1]) (by simp only [vop, val, argsT, upd_ap, Nat.reduceEqDiff, if_true, if_false, ite_true, ite_false, reduceIte, loadAt, loadA, AV.cells, AV.one, List.all_cons, List.all_nil, ofV, ofCell, plain, List.getElem?_cons_zero, List.getElem?_cons_succ, List.getElem?_toArray, Option.getD_some, Bool.not_true, Bool.not_false, Bool.false_eq_true, Bool.and_true, Bool.true_and, Bool.and_self, Nat.zero_add, Option.map_some, Option.bind_some, List.map_cons, List.map_nil, ev_add, ev_sub, ev_mul, ev_lss, ev_leq, ev_gtr, ev_geq, ev_eql, ev_neq, ev_seql, ev_sneq, ev_sleq, ev_slss, ev_not, ev_min, ev_max, asNat_nat, asNat_zero, asNat_one, asNat_two, asNat_three, vb_len, List.length_cons, List.length_nil, Nat.reduceAdd, Nat.reduceLeDiff, Nat.reduceMul, Int.reduceEq, Int.reduceLT, Int.reduceLE, Int.reduceNeg, Int.reduceAdd, Int.reduceSub, Nat.reduceLT, decide_true, decide_false, not_true_eq_false, not_false_eq_true, and_self, and_true, true_and, storeA, List.take_zero, List.drop_succ_cons, List.drop_zero, List.nil_append, List.append_nil, List.take_succ_cons, List.cons_append, cut_cons, cut_zero, cut_skip, tAt, hHide, hAt, upsAt, List.contains_cons, List.contains_nil, Nat.reduceBEq, Bool.or_true, Bool.true_or, Bool.or_false, Bool.false_or, Bool.or_self, Bool.and_true, Bool.true_and, Bool.and_false, Bool.false_and, beq_self_eq_true (α := Nat), Option.some_beq_some, Option.none_beq_some, Option.some_beq_none, Bool.false_eq_true, List.all_nil, touch, touchB, Nat.sub_self, List.range'_zero, Nat.add_sub_cancel_left, List.range'_one, h8]) (hcall d x r _ _ _ hdr hI (fun h' n' hn' hI' => st_gn hn' rfl ?_) (fun h' n' hn' hq => st_gn hn' rfl ?_))
      · refine wB1 (wa h0 (wa h1 (wa h7 (wa h8 w1)))) ?_
        refine ⟨r.length, by simp, d ++ [x], r, by simp [hdr], rfl, ?_, ?_, ?_, ?_, hI'⟩
        all_goals simp [upd_ap, h0, h1, h7]
      · refine wB1 (wa h0 (wa h1 (wa h7 (wa h8 w1)))) ?_
        exact hq
  · simp [upd_ap, argsT, hI]
theorem gf88 (G : Nat → Option (List AV)) (l : List JV) (hl : l.length ≤ 140737488355328) (g : FuncId) (m : Nat) (I : List JV → Heap → Nat → Prop) (Q : AV → Heap → Nat → Prop)
    (hcall : ∀ d x r h n (K : AV → Heap → Nat → Prop), l = d ++ x :: r → I d h n → (∀ h' n', n ≤ n' → I (d ++ [x]) h' n' → K (.sc (.bool false)) h' n') → (∀ h' n', n ≤ n' → Q (.sc (.bool true)) h' n' → K (.sc (.bool true)) h' n') →
      Wk (Cf G) (.fn (.func g) [.ptr m 0]) [.agg (enc x)] h n K)
    (hend : ∀ h n, I l h n → Q (.sc (.bool false)) h n) {h : Heap} {n : Nat} (hI : I [] h n) : Gf (Cf G) 88 [.psl (encs l) l.length, .fn (.func g) [.ptr m 0]] h n Q := by
  refine Gf_enter (C := Cf G) Tryz.func88 rfl ok88 (Nat.le_of_ble_eq_true rfl) ?_
  simp only [Tryz.f88, Option.getD_some]
  refine wB1 trivial ?_
  refine st_walk rfl rfl rfl (by simp only [vop, val, argsT, upd_ap, Nat.reduceEqDiff, if_true, if_false, ite_true, ite_false, reduceIte, loadAt, loadA, AV.cells, AV.one, List.all_cons, List.all_nil, ofV, ofCell, plain, List.getElem?_cons_zero, List.getElem?_cons_succ, List.getElem?_toArray, Option.getD_some, Bool.not_true, Bool.not_false, Bool.false_eq_true, Bool.and_true, Bool.true_and, Bool.and_self, Nat.zero_add, Option.map_some, Option.bind_some, List.map_cons, List.map_nil, ev_add, ev_sub, ev_mul, ev_lss, ev_leq, ev_gtr, ev_geq, ev_eql, ev_neq, ev_seql, ev_sneq, ev_sleq, ev_slss, ev_not, ev_min, ev_max, asNat_nat, asNat_zero, asNat_one, asNat_two, asNat_three, vb_len, List.length_cons, List.length_nil, Nat.reduceAdd, Nat.reduceLeDiff, Nat.reduceMul, Int.reduceEq, Int.reduceLT, Int.reduceLE, Int.reduceNeg, Int.reduceAdd, Int.reduceSub, Nat.reduceLT, decide_true, decide_false, not_true_eq_false, not_false_eq_true, and_self, and_true, true_and, storeA, List.take_zero, List.drop_succ_cons, List.drop_zero, List.nil_append, List.append_nil, List.take_succ_cons, List.cons_append, cut_cons, cut_zero, cut_skip, tAt, hHide, hAt, upsAt, List.contains_cons, List.contains_nil, Nat.reduceBEq, Bool.or_true, Bool.true_or, Bool.or_false, Bool.false_or, Bool.or_self, Bool.and_true, Bool.true_and, Bool.and_false, Bool.false_and, beq_self_eq_true (α := Nat), Option.some_beq_some, Option.none_beq_some, Option.some_beq_none, Bool.false_eq_true, List.all_nil, touch, touchB, Nat.sub_self, List.range'_zero, Nat.add_sub_cancel_left, List.range'_one]; with_reducible rfl) rfl rfl ?_
  refine gf144 G l hl g [.ptr m 0] (fun d h' n' => n ≤ n' ∧ I d h' n') _ (fun d x r h' n' K hl hI hF hT => hcall d x r h' n' K hl hI.2 (fun h2 n2 hn2 hI2 => hF h2 n2 hn2 ⟨Nat.le_trans hI.1 hn2, hI2⟩) (fun h2 n2 hn2 hq => hT h2 n2 hn2 (st_gn (Nat.le_trans hI.1 hn2) rfl ?_))) (fun h' n' hI => st_gn hI.1 rfl ?_) ⟨Nat.le_refl _, hI⟩
  · have hge : (0 : Int) ≤ (d.length : Int) := by omega
    refine wB1 hge ?_
    exact hq
  · refine wB1 trivial ?_
    exact hend _ _ hI.2
section
variable (G : Nat → Option (List AV)) (b : Nat) (I : List JV → Heap → Nat → Prop) (S : Heap → Nat → Prop) (c : Nat) (P : List JV)
def RoundOk : Prop := ∀ d x h n (K : AV → Heap → Nat → Prop), Fit x → (∃ r, P = d ++ x :: r) → I d h n → c ≤ n → (∀ h' n', n ≤ n' → (∀ m, c ≤ m → m < n → h' m = h m) → I (d ++ [x]) h' n' → K (.sc (.bool true)) h' n') →
  (∀ h' n', n ≤ n' → S h' n' → K (.sc (.bool false)) h' n') → Wk (Cf G) (.fn (.yield b) []) [.agg (enc x)] h n K
def Stays : Prop := ∀ d h n h' n', I d h n → n ≤ n' → (∀ m, m < c → h' m = h m) → I d h' n'
def WalkOk (v : JV) : Prop := ∀ d h n (Q : AV → Heap → Nat → Prop), (∃ r, P = d ++ (pre v ++ r)) → c ≤ n → I d h n → (∀ h' n', n ≤ n' → (∀ m, c ≤ m → m < n → h' m = h m) → I (d ++ pre v) h' n' → Q (.sc (.bool true)) h' n') →
  (∀ h' n', n ≤ n' → S h' n' → Q (.sc (.bool false)) h' n') → Gf (Cf G) 152 [.agg (enc v), .fn (.yield b) []] h n Q
end
variable {G : Nat → Option (List AV)} {b : Nat} {I : List JV → Heap → Nat → Prop} {S : Heap → Nat → Prop} {c : Nat} {P : List JV}
theorem wk219 (hst : Stays I c) {x : JV} (hw : WalkOk G b I S c P x) {m : Nat} {d : List JV} (hP : ∃ r, P = d ++ (pre x ++ r)) {h : Heap} {n : Nat} (hm : h m = some (.cells [.fn (.yield b) []] 0 false)) (hcm : c ≤ m) (hmn : m < n) (hI : I d h n) (K : AV → Heap → Nat → Prop)
    (hF : ∀ h' n', n ≤ n' → (∀ m, c ≤ m → m < n → h' m = h m) → I (d ++ pre x) h' n' → K (.sc (.bool false)) h' n') (hT : ∀ h' n', n ≤ n' → S h' n' → K (.sc (.bool true)) h' n') :
    Wk (Cf G) (.fn (.func 219) [.ptr m 0]) [.agg (enc x)] h n K := by
  rw [Wk_box rfl]
  refine Gf.go ?_
  have hne : ¬ m = n := by omega
  obtain ⟨kk, ng, cf, ex, t, l, ks⟩ := x
  show Gf (Cf G) 219 [.agg (enc (.mk kk ng cf ex t l ks)), .ptr m 0] h n K
  refine Gf_enter (C := Cf G) Tryz.func219 rfl ok219 (Nat.le_of_ble_eq_true rfl) ?_
  simp only [Tryz.f219, Option.getD_some]
  simp only [enc]
  refine wB1 (wa hm hne) ?_
  refine st_walk rfl rfl rfl (by simp only [vop, val, argsT, upd_ap, Nat.reduceEqDiff, if_true, if_false, ite_true, ite_false, reduceIte, loadAt, loadA, AV.cells, AV.one, List.all_cons, List.all_nil, ofV, ofCell, plain, List.getElem?_cons_zero, List.getElem?_cons_succ, List.getElem?_toArray, Option.getD_some, Bool.not_true, Bool.not_false, Bool.false_eq_true, Bool.and_true, Bool.true_and, Bool.and_self, Nat.zero_add, Option.map_some, Option.bind_some, List.map_cons, List.map_nil, ev_add, ev_sub, ev_mul, ev_lss, ev_leq, ev_gtr, ev_geq, ev_eql, ev_neq, ev_seql, ev_sneq, ev_sleq, ev_slss, ev_not, ev_min, ev_max, asNat_nat, asNat_zero, asNat_one, asNat_two, asNat_three, vb_len, List.length_cons, List.length_nil, Nat.reduceAdd, Nat.reduceLeDiff, Nat.reduceMul, Int.reduceEq, Int.reduceLT, Int.reduceLE, Int.reduceNeg, Int.reduceAdd, Int.reduceSub, Nat.reduceLT, decide_true, decide_false, not_true_eq_false, not_false_eq_true, and_self, and_true, true_and, storeA, List.take_zero, List.drop_succ_cons, List.drop_zero, List.nil_append, List.append_nil, List.take_succ_cons, List.cons_append, cut_cons, cut_zero, cut_skip, tAt, hHide, hAt, upsAt, List.contains_cons, List.contains_nil, Nat.reduceBEq, Bool.or_true, Bool.true_or, Bool.or_false, Bool.false_or, Bool.or_self, Bool.and_true, Bool.true_and, Bool.and_false, Bool.false_and, beq_self_eq_true (α := Nat), Option.some_beq_some, Option.none_beq_some, Option.some_beq_none, Bool.false_eq_true, List.all_nil, touch, touchB, Nat.sub_self, List.range'_zero, Nat.add_sub_cancel_left, List.range'_one]; with_reducible rfl) rfl rfl ?_
  refine hw d _ _ _ hP (by omega) (hst d h n _ _ hI (Nat.le_succ n) (fun q hq => upd_ne _ _ (by omega))) (fun h' n' hn' hfr hI' => st_gn hn' rfl ?_) (fun h' n' hn' hs => st_gn hn' rfl ?_)
  · refine wB1 trivial ?_
    refine hF h' n' (by omega) (fun q h1 h2 => ?_) hI'
    rw [hfr q h1 (by omega), upd_ne _ _ (by omega)]
  · refine wB1 trivial ?_
    exact hT h' n' (by omega) hs
end Go.Proofs.Bv
namespace Go.Proofs.Bv
open Go
variable {G : Nat → Option (List AV)} {b : Nat} {I : List JV → Heap → Nat → Prop} {S : Heap → Nat → Prop} {c : Nat} {P : List JV}
set_option maxHeartbeats 2000000 in
theorem walk_ok (hst : Stays I c) (hround : RoundOk G b I S c P) : (v : JV) → Fit v → WalkOk G b I S c P v
  | .mk kk ng cf ex t l ks => fun hfit => by
    intro d h n Q ⟨rP, hP⟩ hcn hI hT hF
    have hnl := hfit.1.nlist
    have ih : ∀ x ∈ l, WalkOk G b I S c P x := fun x hx => walk_ok hst hround x (Fits_mem hfit.2 x hx)
    have hn1 : ¬ n = n + 1 := by omega
    refine Gf_enter (C := Cf G) Tryz.func152 rfl ok152 (Nat.le_of_ble_eq_true rfl) ?_
    simp only [Tryz.f152, Option.getD_some]
    simp only [enc]
    refine wB1 @hn1 ?_
    have hI2 := hst d h n (upd (upd h n (some (.cells (enc (.mk kk ng cf ex t l ks)) 0 false))) (n + 1) (some (.cells [.fn (.yield b) []] 0 false))) (n + 1 + 1) hI (by omega) (fun q hq => by rw [upd_ne _ _ (by omega), upd_ne _ _ (by omega)])
    refine st_wk rfl rfl (by simp only [vop, val, argsT, upd_ap, Nat.reduceEqDiff, if_true, if_false, ite_true, ite_false, reduceIte, loadAt, loadA, AV.cells, AV.one, List.all_cons, List.all_nil, ofV, ofCell, plain, List.getElem?_cons_zero, List.getElem?_cons_succ, List.getElem?_toArray, Option.getD_some, Bool.not_true, Bool.not_false, Bool.false_eq_true, Bool.and_true, Bool.true_and, Bool.and_self, Nat.zero_add, Option.map_some, Option.bind_some, List.map_cons, List.map_nil, ev_add, ev_sub, ev_mul, ev_lss, ev_leq, ev_gtr, ev_geq, ev_eql, ev_neq, ev_seql, ev_sneq, ev_sleq, ev_slss, ev_not, ev_min, ev_max, asNat_nat, asNat_zero, asNat_one, asNat_two, asNat_three, vb_len, List.length_cons, List.length_nil, Nat.reduceAdd, Nat.reduceLeDiff, Nat.reduceMul, Int.reduceEq, Int.reduceLT, Int.reduceLE, Int.reduceNeg, Int.reduceAdd, Int.reduceSub, Nat.reduceLT, decide_true, decide_false, not_true_eq_false, not_false_eq_true, and_self, and_true, true_and, storeA, List.take_zero, List.drop_succ_cons, List.drop_zero, List.nil_append, List.append_nil, List.take_succ_cons, List.cons_append, cut_cons, cut_zero, cut_skip, tAt, hHide, hAt, upsAt, List.contains_cons, List.contains_nil, Nat.reduceBEq, Bool.or_true, Bool.true_or, Bool.or_false, Bool.false_or, Bool.or_self, Bool.and_true, Bool.true_and, Bool.and_false, Bool.false_and, beq_self_eq_true (α := Nat), Option.some_beq_some, Option.none_beq_some, Option.some_beq_none, Bool.false_eq_true, List.all_nil, touch, touchB, Nat.sub_self, List.range'_zero, Nat.add_sub_cancel_left, List.range'_one]) (by simp only [vop, val, argsT, upd_ap, Nat.reduceEqDiff, if_true, if_false, ite_true, ite_false, reduceIte, loadAt, loadA, AV.cells, AV.one, List.all_cons, List.all_nil, ofV, ofCell, plain, List.getElem?_cons_zero, List.getElem?_cons_succ, List.getElem?_toArray, Option.getD_some, Bool.not_true, Bool.not_false, Bool.false_eq_true, Bool.and_true, Bool.true_and, Bool.and_self, Nat.zero_add, Option.map_some, Option.bind_some, List.map_cons, List.map_nil, ev_add, ev_sub, ev_mul, ev_lss, ev_leq, ev_gtr, ev_geq, ev_eql, ev_neq, ev_seql, ev_sneq, ev_sleq, ev_slss, ev_not, ev_min, ev_max, asNat_nat, asNat_zero, asNat_one, asNat_two, asNat_three, vb_len, List.length_cons, List.length_nil, Nat.reduceAdd, Nat.reduceLeDiff, Nat.reduceMul, Int.reduceEq, Int.reduceLT, Int.reduceLE, Int.reduceNeg, Int.reduceAdd, Int.reduceSub, Nat.reduceLT, decide_true, decide_false, not_true_eq_false, not_false_eq_true, and_self, and_true, true_and, storeA, List.take_zero, List.drop_succ_cons, List.drop_zero, List.nil_append, List.append_nil, List.take_succ_cons, List.cons_append, cut_cons, cut_zero, cut_skip, tAt, hHide, hAt, upsAt, List.contains_cons, List.contains_nil, Nat.reduceBEq, Bool.or_true, Bool.true_or, Bool.or_false, Bool.false_or, Bool.or_self, Bool.and_true, Bool.true_and, Bool.and_false, Bool.false_and, beq_self_eq_true (α := Nat), Option.some_beq_some, Option.none_beq_some, Option.some_beq_none, Bool.false_eq_true, List.all_nil, touch, touchB, Nat.sub_self, List.range'_zero, Nat.add_sub_cancel_left, List.range'_one, enc]) (hround d _ _ _ _ hfit ⟨pres l ++ rP, by rw [hP]; simp [pre]⟩ hI2 (by omega) (fun h' n' hn' hfr hI' => st_gn hn' rfl ?_) (fun h' n' hn' hs => st_gn hn' rfl ?_))
    · have q0 : h' n = some (.cells (enc (.mk kk ng cf ex t l ks)) 0 false) := by
        rw [hfr n hcn (by omega), upd_ne _ _ (by omega), upd_same]
        rfl
      have q1 : h' (n + 1) = some (.cells [.fn (.yield b) []] 0 false) := by
        rw [hfr (n + 1) (by omega) (by omega), upd_same]
      refine wB1 (wa q0 (wa q1 @Array.size_empty.{0})) ?_
      refine o_gw ?_
      refine st_walk rfl rfl rfl (by simp only [vop, val, argsT, upd_ap, Nat.reduceEqDiff, if_true, if_false, ite_true, ite_false, reduceIte, loadAt, loadA, AV.cells, AV.one, List.all_cons, List.all_nil, ofV, ofCell, plain, List.getElem?_cons_zero, List.getElem?_cons_succ, List.getElem?_toArray, Option.getD_some, Bool.not_true, Bool.not_false, Bool.false_eq_true, Bool.and_true, Bool.true_and, Bool.and_self, Nat.zero_add, Option.map_some, Option.bind_some, List.map_cons, List.map_nil, ev_add, ev_sub, ev_mul, ev_lss, ev_leq, ev_gtr, ev_geq, ev_eql, ev_neq, ev_seql, ev_sneq, ev_sleq, ev_slss, ev_not, ev_min, ev_max, asNat_nat, asNat_zero, asNat_one, asNat_two, asNat_three, vb_len, List.length_cons, List.length_nil, Nat.reduceAdd, Nat.reduceLeDiff, Nat.reduceMul, Int.reduceEq, Int.reduceLT, Int.reduceLE, Int.reduceNeg, Int.reduceAdd, Int.reduceSub, Nat.reduceLT, decide_true, decide_false, not_true_eq_false, not_false_eq_true, and_self, and_true, true_and, storeA, List.take_zero, List.drop_succ_cons, List.drop_zero, List.nil_append, List.append_nil, List.take_succ_cons, List.cons_append, cut_cons, cut_zero, cut_skip, tAt, hHide, hAt, upsAt, List.contains_cons, List.contains_nil, Nat.reduceBEq, Bool.or_true, Bool.true_or, Bool.or_false, Bool.false_or, Bool.or_self, Bool.and_true, Bool.true_and, Bool.and_false, Bool.false_and, beq_self_eq_true (α := Nat), Option.some_beq_some, Option.none_beq_some, Option.some_beq_none, Bool.false_eq_true, List.all_nil, touch, touchB, Nat.sub_self, List.range'_zero, Nat.add_sub_cancel_left, List.range'_one]; with_reducible rfl) rfl rfl ?_
      refine gf88 G l (by omega) 219 (n + 1) (fun e h2 n2 => n' ≤ n2 ∧ (∀ m, c ≤ m → m < n' → h2 m = h' m) ∧ I (d ++ .mk kk ng cf ex t l ks :: pres e) h2 n2) _ ?_ ?_ ⟨Nat.le_refl _, fun _ _ _ => rfl, by simpa [pres] using hI'⟩
      · rintro e x r h2 n2 K hl ⟨hn2, hfr2, hI2⟩ hF2 hT2
        refine wk219 hst (ih x (by rw [hl]; simp)) (d := d ++ .mk kk ng cf ex t l ks :: pres e) ⟨pres r ++ rP, by rw [hP]; simp only [pre]; rw [hl, pres_app]; simp [pres]⟩ (by rw [hfr2 (n + 1) (by omega) (by omega), q1]) (by omega) (by omega) hI2 K (fun h3 n3 hn3 hfr3 hI3 => hF2 h3 n3 hn3 ⟨by omega, fun m h1 h2 => ?_, ?_⟩) (fun h3 n3 hn3 hs => hT2 h3 n3 hn3 (st_gn (by omega) rfl ?_))
        · rw [hfr3 m h1 (by omega), hfr2 m h1 h2]
        · have e2 : d ++ JV.mk kk ng cf ex t l ks :: pres (e ++ [x]) = (d ++ JV.mk kk ng cf ex t l ks :: pres e) ++ pre x := by
            rw [pres_app]
            simp [pres]
          rw [e2]
          exact hI3
        · refine wB1 trivial ?_
          exact hF h3 n3 (by omega) hs
      · rintro h2 n2 ⟨hn2, hfr2, hI2⟩
        refine st_gn hn2 rfl ?_
        refine wB1 trivial ?_
        refine hT h2 n2 (by omega) (fun m h1 h3 => ?_) ?_
        · rw [hfr2 m h1 (by omega), hfr m h1 (by omega), upd_ne _ _ (by omega), upd_ne _ _ (by omega)]
        · simpa [pre] using hI2
    · refine wB1 trivial ?_
      exact hF h' n' (by omega) hs
  termination_by v => v
  decreasing_by
    simp_wf
    have := List.sizeOf_lt_of_mem hx
    omega
theorem gf151 (hst : Stays I c) (v : JV) (hround : RoundOk G b I S c (pre v)) (hfit : Fit v) (h : Heap) (n : Nat) (hcn : c ≤ n) (hI : I [] h n) (Q : AV → Heap → Nat → Prop) (hT : ∀ h' n', n ≤ n' → I (pre v) h' n' → Q (.tup []) h' n') (hF : ∀ h' n', n ≤ n' → S h' n' → Q (.tup []) h' n') :
    Gf (Cf G) 151 [.fn (.yield b) [], .pptr (enc v) 0] h n Q := by
  have hw := walk_ok hst hround v hfit
  obtain ⟨kk, ng, cf, ex, t, l, ks⟩ := v
  refine Gf_enter (C := Cf G) Tryz.func151 rfl ok151 (Nat.le_of_ble_eq_true rfl) ?_
  simp only [Tryz.f151, Option.getD_some]
  simp only [enc]
  refine wB1 trivial ?_
  refine st_walk rfl rfl rfl (by simp only [vop, val, argsT, upd_ap, Nat.reduceEqDiff, if_true, if_false, ite_true, ite_false, reduceIte, loadAt, loadA, AV.cells, AV.one, List.all_cons, List.all_nil, ofV, ofCell, plain, List.getElem?_cons_zero, List.getElem?_cons_succ, List.getElem?_toArray, Option.getD_some, Bool.not_true, Bool.not_false, Bool.false_eq_true, Bool.and_true, Bool.true_and, Bool.and_self, Nat.zero_add, Option.map_some, Option.bind_some, List.map_cons, List.map_nil, ev_add, ev_sub, ev_mul, ev_lss, ev_leq, ev_gtr, ev_geq, ev_eql, ev_neq, ev_seql, ev_sneq, ev_sleq, ev_slss, ev_not, ev_min, ev_max, asNat_nat, asNat_zero, asNat_one, asNat_two, asNat_three, vb_len, List.length_cons, List.length_nil, Nat.reduceAdd, Nat.reduceLeDiff, Nat.reduceMul, Int.reduceEq, Int.reduceLT, Int.reduceLE, Int.reduceNeg, Int.reduceAdd, Int.reduceSub, Nat.reduceLT, decide_true, decide_false, not_true_eq_false, not_false_eq_true, and_self, and_true, true_and, storeA, List.take_zero, List.drop_succ_cons, List.drop_zero, List.nil_append, List.append_nil, List.take_succ_cons, List.cons_append, cut_cons, cut_zero, cut_skip, tAt, hHide, hAt, upsAt, List.contains_cons, List.contains_nil, Nat.reduceBEq, Bool.or_true, Bool.true_or, Bool.or_false, Bool.false_or, Bool.or_self, Bool.and_true, Bool.true_and, Bool.and_false, Bool.false_and, beq_self_eq_true (α := Nat), Option.some_beq_some, Option.none_beq_some, Option.some_beq_none, Bool.false_eq_true, List.all_nil, touch, touchB, Nat.sub_self, List.range'_zero, Nat.add_sub_cancel_left, List.range'_one]; with_reducible rfl) rfl rfl ?_
  refine hw [] _ _ _ ⟨[], by simp⟩ hcn hI (fun h' n' hn' hfr hI' => st_gn hn' rfl ?_) (fun h' n' hn' hs => st_gn hn' rfl ?_)
  · refine wB1 trivial ?_
    exact hT h' n' hn' hI'
  · refine wB1 trivial ?_
    exact hF h' n' hn' hs
theorem pc95 (G : Nat → Option (List AV)) (v : JV) : Pc (Cf G) 95 [.agg (enc v)] (.fn (.func 151) [.pptr (enc v) 0]) := by
  obtain ⟨kk, ng, cf, ex, t, l, ks⟩ := v
  refine Pc_of (Gf_enter (C := Cf G) Tryz.func95 rfl ok95 (Nat.le_of_ble_eq_true rfl) ?_)
  simp only [Tryz.f95, Option.getD_some]
  simp only [enc]
  refine wB1 @Array.size_empty.{0} ?_
  rfl
end Go.Proofs.Bv
namespace Go.Proofs.Bv
open Go
theorem ok44 : codeOk 21 (Tryz.f44.body.getD .skip) = true := by kernel_rfl
theorem st_abs' {C : Cfg} {nt n : Nat} {rd : Bool} {T : Nat → AV} {h : Heap} {c : Code} {Q : Ex → St → Prop} (P : (Nat → AV) → Prop) (hP : P T) (hw : ∀ T, P T → Gc C nt rd c ⟨T, h, n⟩ Q) : Gc C nt rd c ⟨T, h, n⟩ Q := hw T hP
theorem gf151L (G : Nat → Option (List AV)) (v : JV) (hfit : Fit v) (b c : Nat) (L : LoopA) (J : List JV → Heap → Nat → Prop) (Q : AV → Heap → Nat → Prop) (hbc : b < c) (hst : Stays J c)
    (hround : ∀ d x h n (K : AV → Heap → Nat → Prop), Fit x → (∃ r, pre v = d ++ x :: r) → J d h n → h b = some (.loop L) → c ≤ n → (∀ h' n', n ≤ n' → (∀ m, c ≤ m → m < n → h' m = h m) → J (d ++ [x]) h' n' → h' b = some (.loop L) → K (.sc (.bool true)) h' n') →
      (∀ h' n', n ≤ n' → Q (.tup []) h' n' → K (.sc (.bool false)) h' n') → Wk (Cf G) (.fn (.yield b) []) [.agg (enc x)] h n K)
    (hend : ∀ h n, J (pre v) h n → h b = some (.loop L) → Q (.tup []) h n) {h : Heap} {n : Nat} (hcn : c ≤ n) (hJ : J [] h n) (hL : h b = some (.loop L)) : Gf (Cf G) 151 [.fn (.yield b) [], .pptr (enc v) 0] h n Q :=
  gf151 (I := fun d h n => J d h n ∧ h b = some (.loop L)) (S := fun h n => Q (.tup []) h n) (c := c) (fun d h n h' n' hI hn hfr => ⟨hst d h n h' n' hI.1 hn hfr, by rw [hfr b hbc]; exact hI.2⟩)
    v (fun d x h n K hfx hP hI hcn hT hF => hround d x h n K hfx hP hI.1 hI.2 hcn (fun h' n' hn hfr hj hl => hT h' n' hn hfr ⟨hj, hl⟩) hF) hfit h n hcn ⟨hJ, hL⟩ Q (fun h' n' _ hI => hend h' n' hI.1 hI.2) (fun h' n' _ hs => hs)
def firstErr : List JV → Int
  | [] => 0
  | x :: r => if own x = 0 then firstErr r else own x
theorem firstErr_app (d r : List JV) (h : firstErr d = 0) : firstErr (d ++ r) = firstErr r := by
  induction d with
  | nil => rfl
  | cons x d ih =>
    simp only [firstErr] at h
    split at h
    · rename_i h0
      simp only [List.cons_append, firstErr, if_pos h0]
      exact ih h
    · rename_i h0
      exact absurd h h0
def chk (v : JV) : Int := if 64 < deep v 1000 then 42 else if 16384 < size v then 3 else firstErr (pre v)
set_option maxHeartbeats 4000000 in
set_option maxRecDepth 100000 in
theorem pc44 (G : Nat → Option (List AV)) (v : JV) (hfit : Fit v) : Pc (Cf G) 44 [.agg (enc v)] (.sc (.int .i64 (chk v))) := by
  have h1 := pc93 G v hfit
  have h2 := pc94 G v hfit
  have h3 := pc95 G v
  have hv : ∃ k ng cf ex t l ks, v = .mk k ng cf ex t l ks := by obtain ⟨k, ng, cf, ex, t, l, ks⟩ := v; exact ⟨_, _, _, _, _, _, _, rfl⟩
  obtain ⟨k, ng, cf, ex, t, l, ks, hve⟩ := hv
  have he : enc v = enc (.mk k ng cf ex t l ks) := by rw [hve]
  simp only [enc] at he
  simp only [chk]
  generalize deep v 1000 = d1 at *
  generalize size v = s1 at *
  refine Pc_of (Gf_enter (C := Cf G) Tryz.func44 rfl ok44 (Nat.le_of_ble_eq_true rfl) ?_)
  simp only [Tryz.f44, Option.getD_some]
  simp only [he] at h1 h2 h3 ⊢
  (focus refine wC3 trivial (wa h1 (wa h2 (wa h3 trivial))) ?_ ?_ ?_; intro hb; rotate_left; intro hb hb; rotate_left; intro hb hb; rotate_left)
  · simp only [one1, frz_s, Option.map_some]
    rw [if_pos hb]
  · simp only [one1, frz_s, Option.map_some]
    rw [if_neg (by assumption), if_pos hb]
  · rw [if_neg (by assumption), if_neg (by assumption)]
    refine st_abs' (fun T => T 2 = .ptr 1 0 ∧ T 14 = .fn (.func 151) [.pptr (enc v) 0]) ⟨rfl, by rw [he]; rfl⟩ ?_
    rintro T ⟨t2, t14⟩
    refine st_range' (by simp only [vop, val, argsT, upd_ap, Nat.reduceEqDiff, if_true, if_false, ite_true, ite_false, reduceIte, loadAt, loadA, AV.cells, AV.one, List.all_cons, List.all_nil, ofV, ofCell, plain, List.getElem?_cons_zero, List.getElem?_cons_succ, List.getElem?_toArray, Option.getD_some, Bool.not_true, Bool.not_false, Bool.false_eq_true, Bool.and_true, Bool.true_and, Bool.and_self, Nat.zero_add, Option.map_some, Option.bind_some, List.map_cons, List.map_nil, ev_add, ev_sub, ev_mul, ev_lss, ev_leq, ev_gtr, ev_geq, ev_eql, ev_neq, ev_seql, ev_sneq, ev_sleq, ev_slss, ev_not, ev_min, ev_max, asNat_nat, asNat_zero, asNat_one, asNat_two, asNat_three, vb_len, List.length_cons, List.length_nil, Nat.reduceAdd, Nat.reduceLeDiff, Nat.reduceMul, Int.reduceEq, Int.reduceLT, Int.reduceLE, Int.reduceNeg, Int.reduceAdd, Int.reduceSub, Nat.reduceLT, decide_true, decide_false, not_true_eq_false, not_false_eq_true, and_self, and_true, true_and, storeA, List.take_zero, List.drop_succ_cons, List.drop_zero, List.nil_append, List.append_nil, List.take_succ_cons, List.cons_append, cut_cons, cut_zero, cut_skip, tAt, hHide, hAt, upsAt, List.contains_cons, List.contains_nil, Nat.reduceBEq, Bool.or_true, Bool.true_or, Bool.or_false, Bool.false_or, Bool.or_self, Bool.and_true, Bool.true_and, Bool.and_false, Bool.false_and, beq_self_eq_true (α := Nat), Option.some_beq_some, Option.none_beq_some, Option.some_beq_none, Bool.false_eq_true, List.all_nil, touch, touchB, Nat.sub_self, List.range'_zero, Nat.add_sub_cancel_left, List.range'_one, t14]; with_reducible rfl) ?_
    refine gf151L G v hfit _ 3 _ (fun d h n => 3 ≤ n ∧ firstErr d = 0 ∧ h 1 = some (.cells [.sc (.int .i64 0)] 0 false)) _ (by decide) ?_ ?_ ?_ (Nat.le_refl _) ⟨Nat.le_refl _, rfl, rfl⟩ rfl
    · rintro d h n h' n' ⟨j0, j1, j2⟩ hn hfr
      exact ⟨by omega, j1, by rw [hfr 1 (by omega)]; exact j2⟩
    · rintro d x h n K hfx ⟨rP, hP⟩ ⟨j0, j1, j2⟩ hLp hcn hT hF
      have ho := pc96 G x hfx
      have hn2 : ¬ n = 2 := by omega
      have hn1 : ¬ n = 1 := by omega
      have h2n : ¬ 2 = n := by omega
      have h1n : ¬ 1 = n := by omega
      have hxe : ∃ k ng cf ex t l ks, enc x = [.sc (.int .i64 k), .sc (.bool ng), .psl (u32s cf) cf.length, .sc (.int .i64 ex), .sc (.string t), .psl (encs l) l.length, .psl (strs ks) ks.length] := by obtain ⟨k, ng, cf, ex, t, l, ks⟩ := x; exact ⟨_, _, _, _, _, _, _, rfl⟩
      obtain ⟨k', ng', cf', ex', t', l', ks', hxe⟩ := hxe
      rw [hxe] at ho ⊢
      refine Wk_yield hLp (by kernel_rfl) rfl ?_
      refine wB1 hLp ?_
      refine roundMid_of (by simp only [vop, val, argsT, upd_ap, Nat.reduceEqDiff, if_true, if_false, ite_true, ite_false, reduceIte, loadAt, loadA, AV.cells, AV.one, List.all_cons, List.all_nil, ofV, ofCell, plain, List.getElem?_cons_zero, List.getElem?_cons_succ, List.getElem?_toArray, Option.getD_some, Bool.not_true, Bool.not_false, Bool.false_eq_true, Bool.and_true, Bool.true_and, Bool.and_self, Nat.zero_add, Option.map_some, Option.bind_some, List.map_cons, List.map_nil, ev_add, ev_sub, ev_mul, ev_lss, ev_leq, ev_gtr, ev_geq, ev_eql, ev_neq, ev_seql, ev_sneq, ev_sleq, ev_slss, ev_not, ev_min, ev_max, asNat_nat, asNat_zero, asNat_one, asNat_two, asNat_three, vb_len, List.length_cons, List.length_nil, Nat.reduceAdd, Nat.reduceLeDiff, Nat.reduceMul, Int.reduceEq, Int.reduceLT, Int.reduceLE, Int.reduceNeg, Int.reduceAdd, Int.reduceSub, Nat.reduceLT, decide_true, decide_false, not_true_eq_false, not_false_eq_true, and_self, and_true, true_and, storeA, List.take_zero, List.drop_succ_cons, List.drop_zero, List.nil_append, List.append_nil, List.take_succ_cons, List.cons_append, cut_cons, cut_zero, cut_skip, tAt, hHide, hAt, upsAt, List.contains_cons, List.contains_nil, Nat.reduceBEq, Bool.or_true, Bool.true_or, Bool.or_false, Bool.false_or, Bool.or_self, Bool.and_true, Bool.true_and, Bool.and_false, Bool.false_and, beq_self_eq_true (α := Nat), Option.some_beq_some, Option.none_beq_some, Option.some_beq_none, Bool.false_eq_true, List.all_nil, touch, touchB, Nat.sub_self, List.range'_zero, Nat.add_sub_cancel_left, List.range'_one, hLp, h2n]; with_reducible rfl) rfl ?_
      (focus refine wC2 (wa t2 (wa hLp (wa j2 (wa @hn2 (wa @hn1 (wa h2n h1n)))))) (wa ho trivial) ?_ ?_; intro hb; rotate_left; intro hb; rotate_left)
      · refine roundEnd_ret (by simp only [vop, val, argsT, upd_ap, Nat.reduceEqDiff, if_true, if_false, ite_true, ite_false, reduceIte, loadAt, loadA, AV.cells, AV.one, List.all_cons, List.all_nil, ofV, ofCell, plain, List.getElem?_cons_zero, List.getElem?_cons_succ, List.getElem?_toArray, Option.getD_some, Bool.not_true, Bool.not_false, Bool.false_eq_true, Bool.and_true, Bool.true_and, Bool.and_self, Nat.zero_add, Option.map_some, Option.bind_some, List.map_cons, List.map_nil, ev_add, ev_sub, ev_mul, ev_lss, ev_leq, ev_gtr, ev_geq, ev_eql, ev_neq, ev_seql, ev_sneq, ev_sleq, ev_slss, ev_not, ev_min, ev_max, asNat_nat, asNat_zero, asNat_one, asNat_two, asNat_three, vb_len, List.length_cons, List.length_nil, Nat.reduceAdd, Nat.reduceLeDiff, Nat.reduceMul, Int.reduceEq, Int.reduceLT, Int.reduceLE, Int.reduceNeg, Int.reduceAdd, Int.reduceSub, Nat.reduceLT, decide_true, decide_false, not_true_eq_false, not_false_eq_true, and_self, and_true, true_and, storeA, List.take_zero, List.drop_succ_cons, List.drop_zero, List.nil_append, List.append_nil, List.take_succ_cons, List.cons_append, cut_cons, cut_zero, cut_skip, tAt, hHide, hAt, upsAt, List.contains_cons, List.contains_nil, Nat.reduceBEq, Bool.or_true, Bool.true_or, Bool.or_false, Bool.false_or, Bool.or_self, Bool.and_true, Bool.true_and, Bool.and_false, Bool.false_and, beq_self_eq_true (α := Nat), Option.some_beq_some, Option.none_beq_some, Option.some_beq_none, Bool.false_eq_true, List.all_nil, touch, touchB, Nat.sub_self, List.range'_zero, Nat.add_sub_cancel_left, List.range'_one]; with_reducible rfl) ?_
        refine hF _ _ (Nat.le_succ _) (rangeEnd_ret (by show 2 + 1 ≤ n + 1; omega) (by simp only [vop, val, argsT, upd_ap, Nat.reduceEqDiff, if_true, if_false, ite_true, ite_false, reduceIte, loadAt, loadA, AV.cells, AV.one, List.all_cons, List.all_nil, ofV, ofCell, plain, List.getElem?_cons_zero, List.getElem?_cons_succ, List.getElem?_toArray, Option.getD_some, Bool.not_true, Bool.not_false, Bool.false_eq_true, Bool.and_true, Bool.true_and, Bool.and_self, Nat.zero_add, Option.map_some, Option.bind_some, List.map_cons, List.map_nil, ev_add, ev_sub, ev_mul, ev_lss, ev_leq, ev_gtr, ev_geq, ev_eql, ev_neq, ev_seql, ev_sneq, ev_sleq, ev_slss, ev_not, ev_min, ev_max, asNat_nat, asNat_zero, asNat_one, asNat_two, asNat_three, vb_len, List.length_cons, List.length_nil, Nat.reduceAdd, Nat.reduceLeDiff, Nat.reduceMul, Int.reduceEq, Int.reduceLT, Int.reduceLE, Int.reduceNeg, Int.reduceAdd, Int.reduceSub, Nat.reduceLT, decide_true, decide_false, not_true_eq_false, not_false_eq_true, and_self, and_true, true_and, storeA, List.take_zero, List.drop_succ_cons, List.drop_zero, List.nil_append, List.append_nil, List.take_succ_cons, List.cons_append, cut_cons, cut_zero, cut_skip, tAt, hHide, hAt, upsAt, List.contains_cons, List.contains_nil, Nat.reduceBEq, Bool.or_true, Bool.true_or, Bool.or_false, Bool.false_or, Bool.or_self, Bool.and_true, Bool.true_and, Bool.and_false, Bool.false_and, beq_self_eq_true (α := Nat), Option.some_beq_some, Option.none_beq_some, Option.some_beq_none, Bool.false_eq_true, List.all_nil, touch, touchB, Nat.sub_self, List.range'_zero, Nat.add_sub_cancel_left, List.range'_one]; with_reducible rfl) rfl ?_)
        refine wB1 (wa t2 (wa hLp (wa j2 (wa @hn2 (wa @hn1 (wa h2n h1n)))))) ?_
        simp only [one1, frz_s, Option.map_some]
        have hfe : firstErr (pre v) = own x := by
          rw [hP, firstErr_app d _ j1]
          simp only [firstErr]
          rw [if_neg (by simpa using hb)]
        rw [hfe]
      · refine roundEnd_norm (by simp only [vop, val, argsT, upd_ap, Nat.reduceEqDiff, if_true, if_false, ite_true, ite_false, reduceIte, loadAt, loadA, AV.cells, AV.one, List.all_cons, List.all_nil, ofV, ofCell, plain, List.getElem?_cons_zero, List.getElem?_cons_succ, List.getElem?_toArray, Option.getD_some, Bool.not_true, Bool.not_false, Bool.false_eq_true, Bool.and_true, Bool.true_and, Bool.and_self, Nat.zero_add, Option.map_some, Option.bind_some, List.map_cons, List.map_nil, ev_add, ev_sub, ev_mul, ev_lss, ev_leq, ev_gtr, ev_geq, ev_eql, ev_neq, ev_seql, ev_sneq, ev_sleq, ev_slss, ev_not, ev_min, ev_max, asNat_nat, asNat_zero, asNat_one, asNat_two, asNat_three, vb_len, List.length_cons, List.length_nil, Nat.reduceAdd, Nat.reduceLeDiff, Nat.reduceMul, Int.reduceEq, Int.reduceLT, Int.reduceLE, Int.reduceNeg, Int.reduceAdd, Int.reduceSub, Nat.reduceLT, decide_true, decide_false, not_true_eq_false, not_false_eq_true, and_self, and_true, true_and, storeA, List.take_zero, List.drop_succ_cons, List.drop_zero, List.nil_append, List.append_nil, List.take_succ_cons, List.cons_append, cut_cons, cut_zero, cut_skip, tAt, hHide, hAt, upsAt, List.contains_cons, List.contains_nil, Nat.reduceBEq, Bool.or_true, Bool.true_or, Bool.or_false, Bool.false_or, Bool.or_self, Bool.and_true, Bool.true_and, Bool.and_false, Bool.false_and, beq_self_eq_true (α := Nat), Option.some_beq_some, Option.none_beq_some, Option.some_beq_none, Bool.false_eq_true, List.all_nil, touch, touchB, Nat.sub_self, List.range'_zero, Nat.add_sub_cancel_left, List.range'_one]; with_reducible rfl) ?_
        refine hT _ _ (Nat.le_succ _) (fun m h1 h2 => ?_) ⟨by show 3 ≤ n + 1; omega, ?_, ?_⟩ ?_
        · have e1 : ¬ m = 2 := by omega
          have e2 : ¬ m = n := by omega
          simp only [vop, val, argsT, upd_ap, Nat.reduceEqDiff, if_true, if_false, ite_true, ite_false, reduceIte, loadAt, loadA, AV.cells, AV.one, List.all_cons, List.all_nil, ofV, ofCell, plain, List.getElem?_cons_zero, List.getElem?_cons_succ, List.getElem?_toArray, Option.getD_some, Bool.not_true, Bool.not_false, Bool.false_eq_true, Bool.and_true, Bool.true_and, Bool.and_self, Nat.zero_add, Option.map_some, Option.bind_some, List.map_cons, List.map_nil, ev_add, ev_sub, ev_mul, ev_lss, ev_leq, ev_gtr, ev_geq, ev_eql, ev_neq, ev_seql, ev_sneq, ev_sleq, ev_slss, ev_not, ev_min, ev_max, asNat_nat, asNat_zero, asNat_one, asNat_two, asNat_three, vb_len, List.length_cons, List.length_nil, Nat.reduceAdd, Nat.reduceLeDiff, Nat.reduceMul, Int.reduceEq, Int.reduceLT, Int.reduceLE, Int.reduceNeg, Int.reduceAdd, Int.reduceSub, Nat.reduceLT, decide_true, decide_false, not_true_eq_false, not_false_eq_true, and_self, and_true, true_and, storeA, List.take_zero, List.drop_succ_cons, List.drop_zero, List.nil_append, List.append_nil, List.take_succ_cons, List.cons_append, cut_cons, cut_zero, cut_skip, tAt, hHide, hAt, upsAt, List.contains_cons, List.contains_nil, Nat.reduceBEq, Bool.or_true, Bool.true_or, Bool.or_false, Bool.false_or, Bool.or_self, Bool.and_true, Bool.true_and, Bool.and_false, Bool.false_and, beq_self_eq_true (α := Nat), Option.some_beq_some, Option.none_beq_some, Option.some_beq_none, Bool.false_eq_true, List.all_nil, touch, touchB, Nat.sub_self, List.range'_zero, Nat.add_sub_cancel_left, List.range'_one, e1, e2]
        · rw [firstErr_app d [x] j1]
          simp only [firstErr]
          rw [if_pos (by simpa using hb)]
        · simp only [vop, val, argsT, upd_ap, Nat.reduceEqDiff, if_true, if_false, ite_true, ite_false, reduceIte, loadAt, loadA, AV.cells, AV.one, List.all_cons, List.all_nil, ofV, ofCell, plain, List.getElem?_cons_zero, List.getElem?_cons_succ, List.getElem?_toArray, Option.getD_some, Bool.not_true, Bool.not_false, Bool.false_eq_true, Bool.and_true, Bool.true_and, Bool.and_self, Nat.zero_add, Option.map_some, Option.bind_some, List.map_cons, List.map_nil, ev_add, ev_sub, ev_mul, ev_lss, ev_leq, ev_gtr, ev_geq, ev_eql, ev_neq, ev_seql, ev_sneq, ev_sleq, ev_slss, ev_not, ev_min, ev_max, asNat_nat, asNat_zero, asNat_one, asNat_two, asNat_three, vb_len, List.length_cons, List.length_nil, Nat.reduceAdd, Nat.reduceLeDiff, Nat.reduceMul, Int.reduceEq, Int.reduceLT, Int.reduceLE, Int.reduceNeg, Int.reduceAdd, Int.reduceSub, Nat.reduceLT, decide_true, decide_false, not_true_eq_false, not_false_eq_true, and_self, and_true, true_and, storeA, List.take_zero, List.drop_succ_cons, List.drop_zero, List.nil_append, List.append_nil, List.take_succ_cons, List.cons_append, cut_cons, cut_zero, cut_skip, tAt, hHide, hAt, upsAt, List.contains_cons, List.contains_nil, Nat.reduceBEq, Bool.or_true, Bool.true_or, Bool.or_false, Bool.false_or, Bool.or_self, Bool.and_true, Bool.true_and, Bool.and_false, Bool.false_and, beq_self_eq_true (α := Nat), Option.some_beq_some, Option.none_beq_some, Option.some_beq_none, Bool.false_eq_true, List.all_nil, touch, touchB, Nat.sub_self, List.range'_zero, Nat.add_sub_cancel_left, List.range'_one, h1n, j2]
        · simp only [vop, val, argsT, upd_ap, Nat.reduceEqDiff, if_true, if_false, ite_true, ite_false, reduceIte, loadAt, loadA, AV.cells, AV.one, List.all_cons, List.all_nil, ofV, ofCell, plain, List.getElem?_cons_zero, List.getElem?_cons_succ, List.getElem?_toArray, Option.getD_some, Bool.not_true, Bool.not_false, Bool.false_eq_true, Bool.and_true, Bool.true_and, Bool.and_self, Nat.zero_add, Option.map_some, Option.bind_some, List.map_cons, List.map_nil, ev_add, ev_sub, ev_mul, ev_lss, ev_leq, ev_gtr, ev_geq, ev_eql, ev_neq, ev_seql, ev_sneq, ev_sleq, ev_slss, ev_not, ev_min, ev_max, asNat_nat, asNat_zero, asNat_one, asNat_two, asNat_three, vb_len, List.length_cons, List.length_nil, Nat.reduceAdd, Nat.reduceLeDiff, Nat.reduceMul, Int.reduceEq, Int.reduceLT, Int.reduceLE, Int.reduceNeg, Int.reduceAdd, Int.reduceSub, Nat.reduceLT, decide_true, decide_false, not_true_eq_false, not_false_eq_true, and_self, and_true, true_and, storeA, List.take_zero, List.drop_succ_cons, List.drop_zero, List.nil_append, List.append_nil, List.take_succ_cons, List.cons_append, cut_cons, cut_zero, cut_skip, tAt, hHide, hAt, upsAt, List.contains_cons, List.contains_nil, Nat.reduceBEq, Bool.or_true, Bool.true_or, Bool.or_false, Bool.false_or, Bool.or_self, Bool.and_true, Bool.true_and, Bool.and_false, Bool.false_and, beq_self_eq_true (α := Nat), Option.some_beq_some, Option.none_beq_some, Option.some_beq_none, Bool.false_eq_true, List.all_nil, touch, touchB, Nat.sub_self, List.range'_zero, Nat.add_sub_cancel_left, List.range'_one]
    · rintro h n ⟨j0, j1, j2⟩ hLp
      refine rangeEnd_norm (by show 2 + 1 ≤ n; omega) hLp rfl rfl ?_
      refine wB1 (wa t2 (wa hLp j2)) ?_
      simp only [one1, frz_s, Option.map_some, j1]
end Go.Proofs.Bv
namespace Go.Proofs.Bv
open Go
theorem ok51 : codeOk 6 (Tryz.f51.body.getD .skip) = true := by kernel_rfl
theorem ok50 : codeOk 5 (Tryz.f50.body.getD .skip) = true := by kernel_rfl
theorem ok52 : codeOk 18 (Tryz.f52.body.getD .skip) = true := by kernel_rfl
theorem ok55 : codeOk 9 (Tryz.f55.body.getD .skip) = true := by kernel_rfl
theorem ok104 : codeOk 19 (Tryz.f104.body.getD .skip) = true := by kernel_rfl
theorem ok54 : codeOk 18 (Tryz.f54.body.getD .skip) = true := by kernel_rfl
set_option maxHeartbeats 4000000 in
set_option maxRecDepth 100000 in
theorem pc103 (G : Nat → Option (List AV)) (ng : Bool) (n : Nat) (ex : Int) (hl : (lim n).length ≤ 256) (hd : (digs n).length ≤ 2400) (hx : -4000 ≤ ex ∧ ex ≤ 4000) :
    Pc (Cf G) 103 [.sc (.bool ng), .psl (u32s (lim n)) (lim n).length, .sc (.int .i64 ex)] (encR (settleD ng n ex)) := by
  have h1 := pc160 G (lim n) (by omega)
  rw [natChk_lim hl] at h1
  have h2 := pc121 G ng n ex hl hd (by omega)
  have q1 : ¬ ex < -4000 := by omega
  have q2 : ¬ 4000 < ex := by omega
  have g1 := u32s_len1 (lim n)
  have g2 := u32s_pur (lim n)
  have g3 : (lim n).length * 4 ≤ 140737488355328 := by omega
  unfold encR encD at h2 ⊢
  generalize settleD ng n ex = r at *
  refine Pc_of (Gf_enter (C := Cf G) Tryz.func103 rfl ok103 (Nat.le_of_ble_eq_true rfl) ?_)
  simp only [Tryz.f103, Option.getD_some]
  repeat' first | refine w_op rfl rfl ?_ | refine x_p rfl ?_ | refine w_sr ?_ | refine st_nil ?_ | refine w_seq ?_ | refine st_region ?_ | refine st_block ?_ | refine w_cond ?_ | refine b_t ?_ | refine b_f ?_ | refine st_skip ?_ | refine st_exit ?_ | refine st_ret ?_ | refine st_onNormN ?_ | refine st_onNormE ?_ | refine st_onNormR ?_ | refine st_onExitN ?_ | refine st_onExitR ?_ | refine st_onExitS ?_ | refine st_onExitO (by decide) ?_ | refine g_t ?_ | refine g_f rfl ?_ | refine o_op rfl ?_ | refine w_wr ?_ | refine w_wn ?_ | refine d_c rfl ?_ | refine d_on rfl ?_ | refine d_op rfl ?_ | refine d_y ?_ | refine d_gd rfl ?_ | refine d_t ?_ | refine d_f ?_ | refine d_nil ?_ | refine w_dr rfl ?_ | refine d_q ?_ | refine n_0 rfl ?_ | refine d_n ?_ | refine k_p rfl rfl rfl rfl (h1) ?_ | refine k_p rfl rfl rfl rfl (h2) ?_ | refine k_o rfl rfl rfl ?_ | refine w_gd rfl ?_ | ((first | refine zE1 ?_ | refine w_cl rfl rfl ?_ | refine o_cl rfl ?_ | refine d_cl rfl ?_); (conv => arg 1; try simp only [go_sem, Nat.reduceEqDiff, reduceIte, Nat.reduceAdd, Nat.reduceLeDiff, Nat.reduceMul, Int.reduceEq, Int.reduceLT, Int.reduceLE, Int.reduceNeg, Int.reduceAdd, Int.reduceSub, Nat.reduceLT, Nat.reduceBEq, Nat.reduceSub, Nat.reducePow, q1, q2, orcClone, g1, g2, g3]); first | refine zE3 ?_ | refine zE2 ?_ | refine zE4 ?_ | refine zE5 ?_ | refine zE6 ?_ | refine zE7 ?_ | refine zE8 ?_) | (refine w_u false ?_; (conv => arg 1; reduce); refine zR1 ?_) | (refine b_s (fun hb => ?_) (fun hb => ?_) <;> ((try simp only [hn1, hn2, hn3, hn4] at hb); first | (exfalso; omega) | skip)) | (first | refine g_s (fun hb => ?_) (fun hb => ?_) | refine d_s (fun hb => ?_) (fun hb => ?_)) <;> ((try simp only [hn1, hn2] at hb); rw [hb]; try simp only [hn3, hn4] at hb)
  simp only [one1, frz_t, frz_a, mapF, frz_s, frz_l, Option.map_some, List.append_nil]
def intD (n : Nat) : Bool × Nat × Int := if n = 0 then (false, 0, 0) else (false, stripN n, (tzN n : Int))
theorem digs_small {n : Nat} (h : n ≤ 18446744073709551615) : (digs n).length ≤ 20 := digs_len_lt 20 n (by omega)
theorem settle_int {n : Nat} (h : n ≤ 18446744073709551615) : settleD false n 0 = (intD n, 0) := by
  have h1 := digs_small h
  have h2 := strip_le n
  have h3 := tz_le n
  unfold settleD intD
  split
  · rfl
  · rw [if_neg (by omega), if_neg (by omega)]
    simp
theorem from_lim {n : Nat} (h : n ≤ 18446744073709551615) : trimL [(n : Int) % 4294967296, (n : Int) / 4294967296] = lim n := by
  refine trim_lim (fun c hc => ?_) ?_
  · simp at hc; omega
  · simp only [nv]; omega
set_option maxHeartbeats 4000000 in
set_option maxRecDepth 100000 in
theorem pc101 (G : Nat → Option (List AV)) (n : Nat) (h : n ≤ 9223372036854775807) : Pc (Cf G) 101 [.sc (.int .i64 n)] (.agg (encD (intD n).1 (intD n).2.1 (intD n).2.2)) := by
  have h1 := pc159 G n (by omega)
  rw [from_lim (by omega)] at h1
  have hd := digs_small (n := n) (by omega)
  have h2 := pc121 G false n 0 (Nat.le_trans (lim_digs hd) (by omega)) (by omega) (by omega)
  rw [settle_int (by omega)] at h2
  unfold encR encD at h2
  unfold encD
  have w1 : IntKind.u64.wrap (n : Int) = n := IntWalk.u64_in _ (by omega)
  have q1 : ¬ (n : Int) < 0 := by omega
  generalize intD n = r at *
  refine Pc_of (Gf_enter (C := Cf G) Tryz.func101 rfl ok101 (Nat.le_of_ble_eq_true rfl) ?_)
  simp only [Tryz.f101, Option.getD_some]
  refine wC1 (wa w1 q1) (wa h1 (wa h2 trivial)) ?_
  simp only [one1, frz_a, mapF, frz_s, frz_l, Option.map_some, List.append_nil]
def numV (n : Nat) : JV := .mk 3 (intD n).1 (lim (intD n).2.1) (intD n).2.2 ⟨#[]⟩ [] []
def textV (s : ByteArray) : JV := .mk 4 false [] 0 s [] []
set_option maxRecDepth 100000 in
theorem pc51 (G : Nat → Option (List AV)) (n : Nat) (h : n ≤ 9223372036854775807) : Pc (Cf G) 51 [.sc (.int .i64 n)] (.agg (enc (numV n))) := by
  have h1 := pc101 G n h
  unfold encD at h1
  simp only [numV, enc]
  generalize intD n = r at *
  refine Pc_of (Gf_enter (C := Cf G) Tryz.func51 rfl ok51 (Nat.le_of_ble_eq_true rfl) ?_)
  simp only [Tryz.f51, Option.getD_some]
  refine wC1 trivial (wa h1 trivial) ?_
  simp only [one1, frz_a, frz_n, mapF, frz_s, frz_l, Option.map_some, List.append_nil]
  rfl
set_option maxRecDepth 100000 in
theorem pc50 (G : Nat → Option (List AV)) (s : ByteArray) : Pc (Cf G) 50 [.sc (.string s)] (.agg (enc (textV s))) := by
  simp only [textV, enc]
  refine Pc_of (Gf_enter (C := Cf G) Tryz.func50 rfl ok50 (Nat.le_of_ble_eq_true rfl) ?_)
  simp only [Tryz.f50, Option.getD_some]
  refine wB1 trivial ?_
  simp only [one1, frz_a, frz_n, mapF, frz_s, frz_l, Option.map_some, List.append_nil]
  rfl
def idxS : List ByteArray → ByteArray → Nat → Int
  | [], _, _ => -1
  | x :: r, s, i => if (s.toList == x.toList) = true then (i : Int) else idxS r s (i + 1)
theorem idxS_neg : (l : List ByteArray) → (s : ByteArray) → (i : Nat) → (0 ≤ idxS l s i ↔ s ∈ l)
  | [], s, i => by simp [idxS]
  | x :: r, s, i => by
    simp only [idxS, List.mem_cons]
    have e : ((s.toList == x.toList) = true) ↔ s = x := by
      rw [ByteArray.toList_eq, ByteArray.toList_eq, beq_iff_eq]
      constructor
      · intro h
        apply ByteArray.ext
        exact Array.toList_inj.1 h
      · rintro rfl; rfl
    split
    · rename_i h
      simp [e.1 h]
    · rename_i h
      have h' : ¬ s = x := fun q => h (e.2 q)
      rw [idxS_neg r s (i + 1)]
      simp [h']
set_option maxHeartbeats 2000000 in
theorem pc104 (G : Nat → Option (List AV)) (l : List ByteArray) (s : ByteArray) (hl : l.length ≤ 140737488355328) : Pc (Cf G) 104 [.psl (strs l) l.length, .sc (.string s)] (.sc (.int .i64 (idxS l s 0))) := by
  refine Pc_of (Gf_enter (C := Cf G) Tryz.func104 rfl ok104 (Nat.le_of_ble_eq_true rfl) ?_)
  simp only [Tryz.f104, Option.getD_some]
  refine wB1 trivial ?_
  refine Gc_loop_inv (fun m st => ∃ d r, l = d ++ r ∧ m = r.length ∧ idxS r s d.length = idxS l s 0 ∧ st.T 0 = .psl (strs l) l.length ∧ st.T 1 = .sc (.string s) ∧ st.T 7 = .sc (.int .i64 l.length) ∧ st.T 8 = .sc (.int .i64 d.length)) ?_ l.length _ ⟨[], l, rfl, rfl, rfl, ?_⟩
  · rintro m ⟨T, hh, n⟩ ⟨d, r, hdr, rfl, hix, t0, t1, t7, t8⟩
    simp only at t0 t1 t7 t8
    cases r with
    | nil =>
      have hge : ¬ (d.length : Int) < (l.length : Int) := by rw [hdr]; simp
      refine wB1 (wa t0 (wa t1 (wa t7 (wa t8 hge)))) ?_
      simp only [one1, frz_s, Option.map_some, ← hix, idxS]
    | cons x r =>
      have hlt : (d.length : Int) < (l.length : Int) := by rw [hdr]; simp; omega
      have hltn : d.length < l.length := by omega
      have hx := strs_at hdr
      have w1 : IntKind.i64.wrap ((d.length : Int) + 1) = (d.length : Int) + 1 := i64 (by omega) (by omega)
      cases he : (s.toList == x.toList)
      · refine wB1 (wa t0 (wa t1 (wa t7 (wa t8 (wa hlt (wa hltn (wa hx (wa w1 he)))))))) ?_
        refine ⟨r.length, by simp, d ++ [x], r, by simp [hdr], rfl, ?_, ?_⟩
        · rw [← hix, idxS, if_neg (by rw [he]; simp)]
          simp
        · simp [upd_ap, t0, t1, t7]
      · refine wB1 (wa t0 (wa t1 (wa t7 (wa t8 (wa hlt (wa hltn (wa hx (wa w1 he)))))))) ?_
        simp only [one1, frz_s, Option.map_some, ← hix, idxS, he, if_true]
  · simp [upd_ap, argsT]
theorem pc55 (G : Nat → Option (List AV)) (l : List ByteArray) (s : ByteArray) (hl : l.length ≤ 140737488355328) : Pc (Cf G) 55 [.psl (strs l) l.length, .sc (.string s)] (.sc (.bool (decide (0 ≤ idxS l s 0)))) := by
  have hc := pc104 G l s hl
  refine Pc_of (Gf_enter (C := Cf G) Tryz.func55 rfl ok55 (Nat.le_of_ble_eq_true rfl) ?_)
  simp only [Tryz.f55, Option.getD_some]
  refine wC1 trivial (wa hc trivial) ?_
  simp only [one1, frz_s, Option.map_some]
def chks : List JV → Int
  | [] => 0
  | x :: r => if chk x = 0 then chks r else chk x
set_option maxHeartbeats 2000000 in
theorem pc54 (G : Nat → Option (List AV)) (l : List JV) (hl : l.length * 112 ≤ 140737488355328) (hf : Fits l) : Pc (Cf G) 54 [.psl (encs l) l.length] (.sc (.int .i64 (chks l))) := by
  refine Pc_of (Gf_enter (C := Cf G) Tryz.func54 rfl ok54 (Nat.le_of_ble_eq_true rfl) ?_)
  simp only [Tryz.f54, Option.getD_some]
  refine wB1 trivial ?_
  refine Gc_loop_inv (fun m st => ∃ d r, l = d ++ r ∧ m = r.length ∧ chks r = chks l ∧ st.T 6 = .psl (encs l) l.length ∧ st.T 7 = .sc (.int .i64 l.length) ∧ st.T 8 = .sc (.int .i64 d.length)) ?_ l.length _ ⟨[], l, rfl, rfl, rfl, ?_⟩
  · rintro m ⟨T, h, n⟩ ⟨d, r, hdr, rfl, hch, t0, t7, t3⟩
    simp only at t0 t7 t3
    cases r with
    | nil =>
      have hge : ¬ (d.length : Int) < (l.length : Int) := by rw [hdr]; simp
      refine wB1 (wa t0 (wa t7 (wa t3 hge))) ?_
      simp only [one1, frz_s, Option.map_some, ← hch, chks]
    | cons x r =>
      have hlt : (d.length : Int) < (l.length : Int) := by rw [hdr]; simp; omega
      have hltn : d.length < l.length := by omega
      have hcut : cut (encs l) (d.length * 7) 7 = enc x := by rw [hdr]; exact cut_encs d x r
      have hle : d.length * 7 + 7 ≤ (encs l).length := by rw [encs_len]; omega
      have hx := pc44 G x (Fits_mem hf x (by rw [hdr]; simp))
      have w1 : IntKind.i64.wrap ((d.length : Int) + 1) = (d.length : Int) + 1 := i64 (by omega) (by omega)
      simp only [chks] at hch
      obtain ⟨k', n', c', e', t', l', ks'⟩ := x
      simp only [enc] at hx hcut
      by_cases h0 : chk (.mk k' n' c' e' t' l' ks') = 0
      · rw [if_pos h0] at hch
        rw [h0] at hx
        refine wC1 (wa t0 (wa t7 (wa t3 (wa hlt (wa hltn (wa hcut (wa hle w1))))))) (wa hx trivial) ?_
        refine ⟨r.length, by simp, d ++ [.mk k' n' c' e' t' l' ks'], r, by simp [hdr], rfl, hch, ?_⟩
        simp [upd_ap, tAt, t0, t7]
      · rw [if_neg h0] at hch
        rw [← hch]
        generalize chk (.mk k' n' c' e' t' l' ks') = q at *
        refine wC1 (wa t0 (wa t7 (wa t3 (wa hlt (wa hltn (wa hcut (wa hle (wa w1 h0)))))))) (wa hx trivial) ?_
        simp only [one1, frz_s, Option.map_some]
  · simp [upd_ap, argsT]
end Go.Proofs.Bv
namespace Go.Proofs.Bv
open Go
theorem ok17 : codeOk 46 (Tryz.f17.body.getD .skip) = true := by kernel_rfl
theorem dec_lim {ng : Bool} {cf : List Int} {ex : Int} (h : decChk ng cf ex = 0) (ha : Limbs cf) : ∃ n : Nat, cf = lim n ∧ (lim n).length ≤ 256 ∧ (digs n).length ≤ 2400 ∧ -4000 ≤ ex ∧ ex ≤ 4000 := by
  unfold decChk at h
  split at h
  · simp at h
  · rename_i h1
    have hc : natChk cf = 0 := by
      rcases Classical.em (natChk cf = 0) with q | q
      · exact q
      · exact absurd (Or.inl q) h1
    have h40 : ¬ 40 < (cf.length : Int) := fun q => h1 (Or.inr q)
    obtain ⟨ht, hl⟩ := TopOk_of_chk hc
    have hn := nv_nonneg ha
    have he : cf = lim (nv cf).toNat := canon_lim ⟨ha, ht⟩ (by omega)
    refine ⟨(nv cf).toNat, he, by rw [← he]; omega, ?_⟩
    split at h
    · rename_i h0
      have : cf = [] := by cases cf with
        | nil => rfl
        | cons x r => simp at h0; omega
      subst this
      split at h
      · simp at h
      · rename_i h2
        have : ex = 0 := by
          rcases Classical.em (ex = 0) with q | q
          · exact q
          · exact absurd (Or.inr q) h2
        subst this
        simp [nv, digs]
    · split at h
      · simp at h
      · rename_i h2
        unfold nDig at h2
        omega
set_option maxHeartbeats 4000000 in
set_option maxRecDepth 100000 in
theorem pc52 (G : Nat → Option (List AV)) (ng : Bool) (cf : List Int) (ex : Int) (h : decChk ng cf ex = 0) (ha : Limbs cf) :
    Pc (Cf G) 52 [.agg [.sc (.bool ng), .psl (u32s cf) cf.length, .sc (.int .i64 ex)]] (encR (settleD false (nv cf).toNat ex)) := by
  obtain ⟨n, he, hl, hd, hx⟩ := dec_lim h ha
  have h1 := pc102 G ng cf ex (by rw [he]; omega) ha
  rw [h] at h1
  have hn : (nv cf).toNat = n := by rw [he, nv_lim]; rfl
  rw [hn]
  have h2 := pc103 G false n ex hl hd hx
  rw [← he] at h2
  unfold encR encD at h2 ⊢
  generalize settleD false n ex = r at *
  refine Pc_of (Gf_enter (C := Cf G) Tryz.func52 rfl ok52 (Nat.le_of_ble_eq_true rfl) ?_)
  simp only [Tryz.f52, Option.getD_some]
  refine wC1 trivial (wa h1 (wa h2 trivial)) ?_
  simp only [one1, frz_t, frz_a, mapF, frz_s, frz_l, Option.map_some, List.append_nil]
def nullV : JV := .mk 0 false [] 0 ⟨#[]⟩ [] []
def withE (v : JV) (e : Int) : AV := .tup [.agg (enc v), .sc (.int .i64 e)]
def lenR (v : JV) : AV :=
  if ¬ chk v = 0 then withE nullV (chk v)
  else if v.kind = 1 ∨ v.kind = 2 then withE nullV 41
  else if v.kind = 3 then withE (.mk 3 (settleD false (nv v.coef).toNat v.exp).1.1 (lim (settleD false (nv v.coef).toNat v.exp).1.2.1) (settleD false (nv v.coef).toNat v.exp).1.2.2 ⟨#[]⟩ [] []) (settleD false (nv v.coef).toNat v.exp).2
  else if v.kind = 4 then withE (numV (cntS v.text)) 0
  else withE (numV v.list.length) 0
set_option maxHeartbeats 4000000 in
set_option maxRecDepth 100000 in
theorem pc17 (G : Nat → Option (List AV)) : (v : JV) → Fit v → (chk v = 0 → v.text.size * 8 ≤ 140737488355328) → (chk v = 0 → v.kind = 3 → decChk v.neg v.coef v.exp = 0) → Pc (Cf G) 17 [.agg (enc v)] (lenR v)
  | .mk k ng cf ex t l ks => fun hfit ht hd => by
    have h1 := pc44 G (.mk k ng cf ex t l ks) hfit
    have h2 : chk (.mk k ng cf ex t l ks) = 0 → k = 3 → _ := fun a b => pc52 G ng cf ex (hd a b) (fun c hc => hfit.1.coef c hc)
    have h3 := fun a => pc53 G t (ht a)
    have h4 := pc51 G (cntS t) (by have := cnt_le t; have := hfit.1.ntext; omega)
    have h5 := pc51 G l.length (by have := hfit.1.nlist; omega)
    simp only [lenR, withE, nullV, JV.kind, JV.coef, JV.exp, JV.text, JV.list]
    simp only [numV, enc] at h1 h4 h5 ⊢
    generalize chk (.mk k ng cf ex t l ks) = c at *
    by_cases hc : c = 0
    · subst hc
      by_cases hk1 : k = 1
      · subst hk1
        refine Pc_of (Gf_enter (C := Cf G) Tryz.func17 rfl ok17 (Nat.le_of_ble_eq_true rfl) ?_)
        simp only [Tryz.f17, Option.getD_some]
        refine wC1 trivial (wa h1 trivial) ?_
        all_goals (simp [one1, frz_t, frz_a, mapF, frz_s, frz_l, frz_n, encs, u32s, strs] <;> rfl)
      · by_cases hk2 : k = 2
        · subst hk2
          refine Pc_of (Gf_enter (C := Cf G) Tryz.func17 rfl ok17 (Nat.le_of_ble_eq_true rfl) ?_)
          simp only [Tryz.f17, Option.getD_some]
          refine wC1 trivial (wa h1 trivial) ?_
          all_goals (simp [one1, frz_t, frz_a, mapF, frz_s, frz_l, frz_n, encs, u32s, strs] <;> rfl)
        · by_cases hk3 : k = 3
          · subst hk3
            have h2 := h2 rfl rfl
            unfold encR encD at h2
            generalize settleD false (nv cf).toNat ex = r at *
            refine Pc_of (Gf_enter (C := Cf G) Tryz.func17 rfl ok17 (Nat.le_of_ble_eq_true rfl) ?_)
            simp only [Tryz.f17, Option.getD_some]
            refine wC1 trivial (wa h1 (wa h2 trivial)) ?_
            all_goals (simp [one1, frz_t, frz_a, mapF, frz_s, frz_l, frz_n, encs, u32s, strs] <;> rfl)
          · by_cases hk4 : k = 4
            · subst hk4
              have h3 := h3 rfl
              refine Pc_of (Gf_enter (C := Cf G) Tryz.func17 rfl ok17 (Nat.le_of_ble_eq_true rfl) ?_)
              simp only [Tryz.f17, Option.getD_some]
              refine wC1 trivial (wa h1 (wa h3 (wa h4 trivial))) ?_
              all_goals (simp [one1, frz_t, frz_a, mapF, frz_s, frz_l, frz_n, encs, u32s, strs] <;> rfl)
            · refine Pc_of (Gf_enter (C := Cf G) Tryz.func17 rfl ok17 (Nat.le_of_ble_eq_true rfl) ?_)
              simp only [Tryz.f17, Option.getD_some]
              refine wC1 (wa hk1 (wa hk2 (wa hk3 hk4))) (wa h1 (wa h5 trivial)) ?_
              all_goals (simp [one1, frz_t, frz_a, mapF, frz_s, frz_l, frz_n, encs, u32s, strs, hk1, hk2, hk3, hk4] <;> rfl)
    · refine Pc_of (Gf_enter (C := Cf G) Tryz.func17 rfl ok17 (Nat.le_of_ble_eq_true rfl) ?_)
      simp only [Tryz.f17, Option.getD_some]
      refine wC1 hc (wa h1 trivial) ?_
      all_goals (simp [one1, frz_t, frz_a, mapF, frz_s, frz_l, frz_n, encs, u32s, strs, hc] <;> rfl)
end Go.Proofs.Bv
namespace Go.Proofs.Bv
open Go
theorem ok337 : codeOk 23 (Tryz.f337.body.getD .skip) = true := by kernel_rfl
theorem ok284 : codeOk 12 (Tryz.f284.body.getD .skip) = true := by kernel_rfl
theorem ok287 : codeOk 8 (Tryz.f287.body.getD .skip) = true := by kernel_rfl
theorem ok283 : codeOk 19 (Tryz.f283.body.getD .skip) = true := by kernel_rfl
theorem ok227 : codeOk 6 (Tryz.f227.body.getD .skip) = true := by kernel_rfl
theorem ok286 : codeOk 8 (Tryz.f286.body.getD .skip) = true := by kernel_rfl
theorem ok226 : codeOk 33 (Tryz.f226.body.getD .skip) = true := by kernel_rfl
def Sn (h : Heap) (i : Nat) (x : AV) (v : Nat) : Prop := (x = .psl (u32s (lim v)) (lim v).length ∧ True) ∨ (x = .osl i 0 (lim v).length ∧ ∃ z, h i = some (.cells (u32s (lim v)) 1 z))
theorem Sn_shut {h : Heap} {i : Nat} {x : AV} {v : Nat} (l : List Nat) (hs : Sn h i x v) : Sn (shutIds h l) i x v := by
  rcases hs with hs | ⟨h1, z, h2⟩
  · exact .inl hs
  · refine .inr ⟨h1, ?_⟩
    unfold shutIds
    split
    · exact ⟨true, by rw [h2]; rfl⟩
    · exact ⟨z, h2⟩
theorem pow_odd {a b m n : Nat} (h : a * b ^ m = n) (ho : m % 2 = 1) : a * b * (b * b) ^ (m / 2) = n := by
  rw [← h, ← Nat.pow_two, ← Nat.pow_mul, Nat.mul_assoc, ← Nat.pow_succ', show (2 * (m / 2)).succ = m by omega]
theorem pow_even {a b m n : Nat} (h : a * b ^ m = n) (ho : ¬ m % 2 = 1) : a * (b * b) ^ (m / 2) = n := by
  rw [← h, ← Nat.pow_two, ← Nat.pow_mul, show 2 * (m / 2) = m by omega]
set_option maxHeartbeats 8000000 in
set_option maxRecDepth 100000 in
theorem pc337 (G : Nat → Option (List AV)) (e : Nat) (he : e ≤ 2400) : Pc (Cf G) 337 [.sc (.int .i64 e)] (lsl (10 ^ e)) := by
  obtain ⟨K, hK⟩ : ∃ K : Nat, K = 2401 := ⟨_, rfl⟩
  have hpe : 10 ^ e < 10 ^ K := Nat.pow_lt_pow_right (by decide) (by omega)
  refine Pc_of (Gf_enter (C := Cf G) Tryz.func337 rfl ok337 (Nat.le_of_ble_eq_true rfl) ?_)
  simp only [Tryz.f337, Option.getD_some]
  refine wB1 trivial ?_
  refine Gc_loop_inv (fun m st => ∃ a b : Nat, m ≤ 2400 ∧ 1 ≤ a ∧ 1 ≤ b ∧ a * b ^ m = 10 ^ e ∧ st.T 0 = .sc (.int .i64 m) ∧ Sn st.h 0 (st.T 3) a ∧ Sn st.h 1 (st.T 4) b) ?_ e _ ⟨1, 10, he, by decide, by decide, Nat.one_mul _, rfl, .inr ⟨?_, false, ?_⟩, .inr ⟨?_, false, ?_⟩⟩
  · rintro m ⟨T, h, n⟩ ⟨a, b, hm2, ha, hb, hab, t0, s3, s4⟩
    simp only at t0 s3 s4
    have g1 := u32s_len1 (lim a)
    have g2 := u32s_pur (lim a)
    have g3 := u32s_len1 (lim b)
    have g4 := u32s_pur (lim b)
    by_cases h0 : m = 0
    · subst h0
      have e1 : a = 10 ^ e := by simpa using hab
      subst e1
      have q1 : ¬ (0 : Int) < ((0 : Nat) : Int) := by omega
      rcases s3 with ⟨t3, -⟩ | ⟨t3, z3, q3⟩
      · refine wB1 (wa t0 (wa t3 q1)) ?_
        simp only [one1, frz_l, Option.map_some, lsl]
      · refine wB1 (wa t0 (wa t3 (wa q1 q3))) ?_
        simp only [one1]
        rw [frz_w q3 g1 g2]
        rfl
    · have q1 : (0 : Int) < (m : Int) := by omega
      have hbm : b ≤ 10 ^ e := by
        rw [← hab]
        exact Nat.le_trans (Nat.le_trans (Nat.le_of_eq (Nat.pow_one b).symm) (Nat.pow_le_pow_right hb (by omega))) (Nat.le_mul_of_pos_left _ ha)
      have ham : a ≤ 10 ^ e := by
        rw [← hab]
        exact Nat.le_mul_of_pos_right _ (Nat.pow_pos hb)
      have m1 := pcMul G a b K K (by omega) (by omega) (by omega)
      have m2 := pcMul G b b K K (by omega) (by omega) (by omega)
      unfold lsl at m1 m2
      have w2 : (m : Int).tdiv 2 = ((m / 2 : Nat) : Int) := by rw [Int.tdiv_eq_ediv_of_nonneg (by omega)]; omega
      have w3 : IntKind.i64.wrap ((m / 2 : Nat) : Int) = ((m / 2 : Nat) : Int) := i64 (by omega) (by omega)
      have p1 : 1 ≤ a * b := Nat.mul_pos ha hb
      have p2 : 1 ≤ b * b := Nat.mul_pos hb hb
      have u3 := s3
      have u4 := s4
      by_cases hodd : m % 2 = 1
      · have w1 : (m : Int).tmod 2 = 1 := by rw [Int.tmod_eq_emod_of_nonneg (by omega)]; omega
        have hpo := pow_odd hab hodd
        by_cases h1 : m = 1
        · have q2 : ¬ (1 : Int) < (m : Int) := by omega
          have e0 : m / 2 = 0 := by omega
          rw [e0] at hpo w2 w3
          rcases s3 with ⟨t3, q3⟩ | ⟨t3, z3, q3⟩ <;> rcases s4 with ⟨t4, q4⟩ | ⟨t4, z4, q4⟩
          all_goals
            refine wC1 (wa t0 (wa t3 (wa t4 (wa q3 (wa q4 (wa q1 (wa q2 (wa w1 (wa w2 (wa w3 (wa g1 (wa g2 (wa g3 g4))))))))))))) (wa m1 trivial) ?_
            exact ⟨0, by omega, a * b, b, by omega, p1, hb, by simpa using hpo, rfl, .inl ⟨rfl, trivial⟩, by first | exact Sn_shut _ u4 | exact Sn_shut [] u4⟩
        · have q2 : (1 : Int) < (m : Int) := by omega
          rcases s3 with ⟨t3, q3⟩ | ⟨t3, z3, q3⟩ <;> rcases s4 with ⟨t4, q4⟩ | ⟨t4, z4, q4⟩
          all_goals
            have sB := q4
            have sC := q4
            try replace sB : shutIds h [1] 1 = some (.cells (u32s (lim b)) 1 true) := by simp [shutIds, q4, shutBlk]
            try replace sC : shutIds h [0, 1] 1 = some (.cells (u32s (lim b)) 1 true) := by simp [shutIds, q4, shutBlk]
            refine wC1 (wa t0 (wa t3 (wa t4 (wa q3 (wa q4 (wa q1 (wa q2 (wa w1 (wa w2 (wa w3 (wa g1 (wa g2 (wa g3 (wa g4 (wa sB sC))))))))))))))) (wa m1 (wa m2 trivial)) ?_
            exact ⟨m / 2, by omega, a * b, b * b, by omega, p1, p2, hpo, rfl, .inl ⟨rfl, trivial⟩, .inl ⟨rfl, trivial⟩⟩
      · have w1 : (m : Int).tmod 2 = 0 := by rw [Int.tmod_eq_emod_of_nonneg (by omega)]; omega
        have q2 : (1 : Int) < (m : Int) := by omega
        have hpo := pow_even hab hodd
        rcases s3 with ⟨t3, q3⟩ | ⟨t3, z3, q3⟩ <;> rcases s4 with ⟨t4, q4⟩ | ⟨t4, z4, q4⟩
        all_goals
          refine wC1 (wa t0 (wa t3 (wa t4 (wa q3 (wa q4 (wa q1 (wa q2 (wa w1 (wa w2 (wa w3 (wa g1 (wa g2 (wa g3 g4))))))))))))) (wa m2 trivial) ?_
          exact ⟨m / 2, by omega, a, b * b, by omega, ha, p2, hpo, rfl, by first | exact Sn_shut _ u3 | exact Sn_shut [] u3, .inl ⟨rfl, trivial⟩⟩
  · rw [lim_one (by omega) (by omega)]; rfl
  · rw [lim_one (by omega) (by omega)]; rfl
  · rw [lim_one (by omega) (by omega)]; rfl
  · rw [lim_one (by omega) (by omega)]; rfl
end Go.Proofs.Bv
namespace Go.Proofs.Bv
open Go
set_option maxRecDepth 100000 in
theorem pc284 (G : Nat → Option (List AV)) (e : Nat) (he : e ≤ 2400) : Pc (Cf G) 284 [.sc (.int .i64 e)] (.tup [lsl (10 ^ e), .sc (.int .i64 0)]) := by
  have h1 := pc337 G e he
  have q1 : ¬ (e : Int) < 0 := by omega
  have q2 : ¬ (2400 : Int) < (e : Int) := by omega
  unfold lsl at h1 ⊢
  refine Pc_of (Gf_enter (C := Cf G) Tryz.func284 rfl ok284 (Nat.le_of_ble_eq_true rfl) ?_)
  simp only [Tryz.f284, Option.getD_some]
  refine wC1 (wa q1 q2) (wa h1 trivial) ?_
  simp only [one1, frz_t, mapF, frz_s, frz_l, Option.map_some, List.append_nil]
set_option maxRecDepth 100000 in
theorem pc287 (G : Nat → Option (List AV)) (n : Nat) (h : (lim n).length ≤ 256) : Pc (Cf G) 287 [lsl n] (.tup [lsl n, .sc (.int .i64 0)]) := by
  have q1 : ¬ (256 : Int) < ((lim n).length : Int) := by omega
  unfold lsl
  refine Pc_of (Gf_enter (C := Cf G) Tryz.func287 rfl ok287 (Nat.le_of_ble_eq_true rfl) ?_)
  simp only [Tryz.f287, Option.getD_some]
  refine wB1 q1 ?_
  simp only [one1, frz_t, mapF, frz_s, frz_l, Option.map_some, List.append_nil]
set_option maxRecDepth 100000 in
theorem pc283 (G : Nat → Option (List AV)) (a b : Nat) (ha : (lim a).length ≤ 256) (hb : (lim b).length ≤ 256) (hab : (lim (a * b)).length ≤ 256) : Pc (Cf G) 283 [lsl a, lsl b] (.tup [lsl (a * b), .sc (.int .i64 0)]) := by
  have h1 := pc279 G (lim a) (lim b) (by omega) (by omega)
  rw [natChk_lim ha, natChk_lim hb] at h1
  have h2 := pc180 G (lim a) (lim b) (by omega) (lim_limbs a) (lim_limbs b)
  rw [mul_lim] at h2
  have h3 := pc287 G (a * b) hab
  unfold lsl at h3 ⊢
  have h1' : Pc (Cf G) 279 [.psl (u32s (lim a)) (lim a).length, .psl (u32s (lim b)) (lim b).length] (.sc (.int .i64 0)) := h1
  refine Pc_of (Gf_enter (C := Cf G) Tryz.func283 rfl ok283 (Nat.le_of_ble_eq_true rfl) ?_)
  simp only [Tryz.f283, Option.getD_some]
  refine wC1 trivial (wa h1' (wa h2 (wa h3 trivial))) ?_
  simp only [one1, frz_t, mapF, frz_s, frz_l, Option.map_some, List.append_nil]
theorem pc227 (G : Nat → Option (List AV)) (n : Nat) (e : Int) : Pc (Cf G) 227 [lsl n, .sc (.int .i64 e)] (lsl n) := by
  unfold lsl
  refine Pc_of (Gf_enter (C := Cf G) Tryz.func227 rfl ok227 (Nat.le_of_ble_eq_true rfl) ?_)
  simp only [Tryz.f227, Option.getD_some]
  refine wB1 trivial ?_
  simp only [one1, frz_l, Option.map_some]
theorem pc286 (G : Nat → Option (List AV)) (e : Nat) (he : e ≤ 2400) : Pc (Cf G) 286 [.sc (.int .i64 e)] (lsl (10 ^ e)) := by
  have h1 := pc284 G e he
  have h2 := pc227 G (10 ^ e) 0
  unfold lsl at h1 h2 ⊢
  refine Pc_of (Gf_enter (C := Cf G) Tryz.func286 rfl ok286 (Nat.le_of_ble_eq_true rfl) ?_)
  simp only [Tryz.f286, Option.getD_some]
  refine wC1 trivial (wa h1 (wa h2 trivial)) ?_
  simp only [one1, frz_l, Option.map_some]
theorem lim_mul {n e : Nat} (hn : n < 10 ^ 20) (he : e ≤ 20) : (lim n).length ≤ 256 ∧ (lim (10 ^ e)).length ≤ 256 ∧ (lim (n * 10 ^ e)).length ≤ 256 := by
  have h1 : 10 ^ e ≤ 10 ^ 20 := Nat.pow_le_pow_right (by decide) he
  have h2 : n * 10 ^ e < 10 ^ 40 := Nat.lt_of_lt_of_le (Nat.mul_lt_mul_of_lt_of_le hn h1 (Nat.pow_pos (by decide))) (by decide)
  have a1 := lim_len 20 n hn
  have a2 := lim_len 21 (10 ^ e) (by omega)
  have a3 := lim_len 40 _ h2
  omega
set_option maxHeartbeats 4000000 in
set_option maxRecDepth 100000 in
theorem pc226 (G : Nat → Option (List AV)) (ng : Bool) (n e : Nat) (he : e ≤ 20) (hn : n < 10 ^ 20) :
    Pc (Cf G) 226 [.agg (encD ng n e)] (.tup [lsl (n * 10 ^ e), .psl [] 0, .sc (.int .i64 0)]) := by
  have h1 := pc286 G e (by omega)
  obtain ⟨b1, b2, b3⟩ := lim_mul hn he
  have h2 := pc283 G n (10 ^ e) b1 b2 b3
  have h3 := pc227 G (n * 10 ^ e) 0
  have q1 : (0 : Int) ≤ (e : Int) := by omega
  unfold lsl at h1 h2 h3 ⊢
  unfold encD
  refine Pc_of (Gf_enter (C := Cf G) Tryz.func226 rfl ok226 (Nat.le_of_ble_eq_true rfl) ?_)
  simp only [Tryz.f226, Option.getD_some]
  refine wC1 q1 (wa h1 (wa h2 (wa h3 trivial))) ?_
  simp only [one1, frz_t, mapF, frz_s, frz_l, frz_n, Option.map_some, List.append_nil]
  try rfl
end Go.Proofs.Bv
namespace Go.Proofs.Bv
open Go
theorem ok164 : codeOk 43 (Tryz.f164.body.getD .skip) = true := by kernel_rfl
theorem ok106 : codeOk 9 (Tryz.f106.body.getD .skip) = true := by kernel_rfl
theorem ok105 : codeOk 28 (Tryz.f105.body.getD .skip) = true := by kernel_rfl
theorem ok56 : codeOk 5 (Tryz.f56.body.getD .skip) = true := by kernel_rfl
theorem ok163 : codeOk 53 (Tryz.f163.body.getD .skip) = true := by kernel_rfl
theorem ok224 : codeOk 40 (Tryz.f224.body.getD .skip) = true := by kernel_rfl
theorem ok225 : codeOk 4 (Tryz.f225.body.getD .skip) = true := by kernel_rfl
theorem ok285 : codeOk 19 (Tryz.f285.body.getD .skip) = true := by kernel_rfl
theorem nDig_lim (n : Nat) : nDig (lim n) = ((digs n).length : Int) := by
  unfold nDig
  rw [nv_lim]
  rfl
theorem int_facts {m : Nat} (hm : m ≤ 9223372036854775807) : (intD m).1 = false ∧ (intD m).2.1 < 10 ^ 20 ∧ (∃ e : Nat, (intD m).2.2 = (e : Int) ∧ e ≤ 20 ∧ (intD m).2.1 * 10 ^ e = m) ∧ decChk (intD m).1 (lim (intD m).2.1) (intD m).2.2 = 0 := by
  unfold intD
  by_cases h0 : m = 0
  · subst h0
    refine ⟨by simp, by simp, ⟨0, by simp⟩, ?_⟩
    simp [lim_zero, decChk, natChk]
  · rw [if_neg h0]
    obtain ⟨h1, h2, h3⟩ := strip_digs m
    have hd := digs_small (n := m) (by omega)
    have hs := strip_ne (n := m) (by omega)
    have hle : stripN m ≤ m := by
      conv => rhs; rw [h3]
      exact Nat.le_mul_of_pos_right _ (Nat.pow_pos (by decide))
    have hl : (lim (stripN m)).length ≤ 20 := lim_len 20 _ (by omega)
    refine ⟨rfl, by simp only; omega, ⟨tzN m, rfl, by omega, h3.symm⟩, ?_⟩
    have hln : ¬ ((lim (stripN m)).length : Int) = 0 := by
      have := mt (lim_nil (n := stripN m)).1 (by omega)
      have := List.length_pos_iff.2 this
      omega
    simp only [decChk]
    rw [natChk_lim (by omega), if_neg (by omega), if_neg hln, nv_lim, nDig_lim, if_neg (by omega)]
set_option maxHeartbeats 4000000 in
set_option maxRecDepth 100000 in
theorem pc106 (G : Nat → Option (List AV)) (m : Nat) (hm : m ≤ 9223372036854775807) : Pc (Cf G) 106 [.agg (encD (intD m).1 (intD m).2.1 (intD m).2.2)] (.tup [.agg (encD (intD m).1 (intD m).2.1 (intD m).2.2), .sc (.int .i64 0)]) := by
  obtain ⟨f1, f2, ⟨e, f3, f4, f5⟩, f6⟩ := int_facts hm
  rw [f1, f3] at f6 ⊢
  have h1 := pc102 G false (lim (intD m).2.1) e (by have := lim_len 20 _ f2; omega) (lim_limbs _)
  rw [f6] at h1
  have h2 := pc226 G false (intD m).2.1 e f4 f2
  rw [f5] at h2
  have hd := digs_small (n := m) (by omega)
  have h3 := pc103 G false m 0 (Nat.le_trans (lim_digs hd) (by omega)) (by omega) (by omega)
  rw [settle_int (by omega)] at h3
  unfold encR at h3
  rw [f1, f3] at h3
  unfold lsl at h2
  unfold encD at h2 h3 ⊢
  generalize (intD m).2.1 = a at *
  refine Pc_of (Gf_enter (C := Cf G) Tryz.func106 rfl ok106 (Nat.le_of_ble_eq_true rfl) ?_)
  simp only [Tryz.f106, Option.getD_some]
  repeat' first | refine w_op rfl rfl ?_ | refine x_p rfl ?_ | refine w_sr ?_ | refine st_nil ?_ | refine w_seq ?_ | refine st_region ?_ | refine st_block ?_ | refine w_cond ?_ | refine b_t ?_ | refine b_f ?_ | refine st_skip ?_ | refine st_exit ?_ | refine st_ret ?_ | refine st_onNormN ?_ | refine st_onNormE ?_ | refine st_onNormR ?_ | refine st_onExitN ?_ | refine st_onExitR ?_ | refine st_onExitS ?_ | refine st_onExitO (by decide) ?_ | refine g_t ?_ | refine g_f rfl ?_ | refine o_op rfl ?_ | refine w_wr ?_ | refine w_wn ?_ | refine d_c rfl ?_ | refine d_on rfl ?_ | refine d_op rfl ?_ | refine d_y ?_ | refine d_gd rfl ?_ | refine d_t ?_ | refine d_f ?_ | refine d_nil ?_ | refine w_dr rfl ?_ | refine d_q ?_ | refine n_0 rfl ?_ | refine d_n ?_ | refine k_p rfl rfl rfl rfl (h1) ?_ | refine w_gd rfl ?_ | ((first | refine zE1 ?_ | refine w_cl rfl rfl ?_ | refine o_cl rfl ?_ | refine d_cl rfl ?_); (conv => arg 1; try simp only [go_sem, Nat.reduceEqDiff, reduceIte, Nat.reduceAdd, Nat.reduceLeDiff, Nat.reduceMul, Int.reduceEq, Int.reduceLT, Int.reduceLE, Int.reduceNeg, Int.reduceAdd, Int.reduceSub, Nat.reduceLT, Nat.reduceBEq, Nat.reduceSub, Nat.reducePow]); first | refine zE3 ?_ | refine zE2 ?_ | refine zE4 ?_ | refine zE5 ?_ | refine zE6 ?_ | refine zE7 ?_ | refine zE8 ?_) | (refine w_u false ?_; (conv => arg 1; reduce); refine zR1 ?_) | (refine b_s (fun hb => ?_) (fun hb => ?_) <;> ((try simp only [hn1, hn2, hn3, hn4] at hb); first | (exfalso; omega) | skip)) | (first | refine g_s (fun hb => ?_) (fun hb => ?_) | refine d_s (fun hb => ?_) (fun hb => ?_)) <;> ((try simp only [hn1, hn2] at hb); rw [hb]; try simp only [hn3, hn4] at hb)
  refine k_w rfl rfl ?_
  refine Gf_enter (C := Cf G) Tryz.func164 rfl ok164 (Nat.le_of_ble_eq_true rfl) ?_
  simp only [Tryz.f164, Option.getD_some]
  refine wC1 trivial (wa h1 (wa h2 (wa h3 trivial))) ?_
  refine n_1 (Nat.le_of_ble_eq_true rfl) rfl ?_
  refine wB1 trivial ?_
  simp only [one1, frz_t, frz_a, mapF, frz_s, frz_l, frz_n, Option.map_some, List.append_nil]
theorem gf285 (G : Nat → Option (List AV)) (l : List Int) (hl : l.length ≤ 140737488355328) (b : Nat) (I : Nat → Heap → Nat → Prop) (Q : AV → Heap → Nat → Prop)
    (hround : ∀ k x h n (K : AV → Heap → Nat → Prop), I (k + 1) h n → l[k]? = some x → (∀ h' n', n ≤ n' → I k h' n' → K (.sc (.bool true)) h' n') → (∀ h' n', n ≤ n' → Q (.tup []) h' n' → K (.sc (.bool false)) h' n') →
      Wk (Cf G) (.fn (.yield b) []) [.sc (.int .i64 k), .sc (.int .u32 x)] h n K)
    (hend : ∀ h n, I 0 h n → Q (.tup []) h n) {h : Heap} {n : Nat} (hI : I l.length h n) : Gf (Cf G) 285 [.fn (.yield b) [], .pptr [.psl (u32s l) l.length] 0] h n Q := by
  have w0 : IntKind.i64.wrap ((l.length : Int) - 1) = (l.length : Int) - 1 := i64 (by omega) (by omega)
  refine Gf_enter (C := Cf G) Tryz.func285 rfl ok285 (Nat.le_of_ble_eq_true rfl) ?_
  simp only [Tryz.f285, Option.getD_some]
  refine wB1 w0 ?_
  refine Gc_loop_inv (fun m st => m ≤ l.length ∧ st.T 0 = .fn (.yield b) [] ∧ st.T 1 = .pptr [.psl (u32s l) l.length] 0 ∧ st.T 3 = .sc (.int .i64 ((m : Int) - 1)) ∧ I m st.h st.n) ?_ l.length _ ⟨Nat.le_refl _, ?_⟩
  · rintro m ⟨T, h, n⟩ ⟨hm, h0, h1, h3, hI⟩
    simp only at h0 h1 h3 hI
    cases m with
    | zero =>
      have hge : ¬ (0 : Int) ≤ ((0 : Nat) : Int) - 1 := by omega
      refine wB1 (wa h0 (wa h1 (wa h3 hge))) ?_
      exact hend _ _ hI
    | succ k =>
      have e0 : ((k + 1 : Nat) : Int) - 1 = (k : Int) := by omega
      rw [e0] at h3
      have hge : (0 : Int) ≤ (k : Int) := by omega
      have hlt : k < l.length := by omega
      obtain ⟨x, hx⟩ : ∃ x, l[k]? = some x := ⟨l[k]'(by omega), List.getElem?_eq_getElem (by omega)⟩
      have hx' := u32s_at hx
      have wk : IntKind.i64.wrap ((k : Int) - 1) = (k : Int) - 1 := i64 (by omega) (by omega)
      refine wB1 (wa h0 (wa h1 (wa h3 (wa hge (wa hlt hx'))))) ?_
      refine st_wk rfl rfl (by simp only [vop, val, argsT, upd_ap, Nat.reduceEqDiff, if_true, if_false, ite_true, ite_false, reduceIte, loadAt, loadA, AV.cells, AV.one, List.all_cons, List.all_nil, ofV, ofCell, plain, List.getElem?_cons_zero, List.getElem?_cons_succ, List.getElem?_toArray, Option.getD_some, Bool.not_true, Bool.not_false, Bool.false_eq_true, Bool.and_true, Bool.true_and, Bool.and_self, Nat.zero_add, Option.map_some, Option.bind_some, List.map_cons, List.map_nil, ev_add, ev_sub, ev_mul, ev_lss, ev_leq, ev_gtr, ev_geq, ev_eql, ev_neq, ev_seql, ev_sneq, ev_sleq, ev_slss, ev_not, ev_min, ev_max, asNat_nat, asNat_zero, asNat_one, asNat_two, asNat_three, vb_len, List.length_cons, List.length_nil, Nat.reduceAdd, Nat.reduceLeDiff, Nat.reduceMul, Int.reduceEq, Int.reduceLT, Int.reduceLE, Int.reduceNeg, Int.reduceAdd, Int.reduceSub, Nat.reduceLT, decide_true, decide_false, not_true_eq_false, not_false_eq_true, and_self, and_true, true_and, storeA, List.take_zero, List.drop_succ_cons, List.drop_zero, List.nil_append, List.append_nil, List.take_succ_cons, List.cons_append, cut_cons, cut_zero, cut_skip, tAt, hHide, hAt, upsAt, List.contains_cons, List.contains_nil, Nat.reduceBEq, Bool.or_true, Bool.true_or, Bool.or_false, Bool.false_or, Bool.or_self, Bool.and_true, Bool.true_and, Bool.and_false, Bool.false_and, beq_self_eq_true (α := Nat), Option.some_beq_some, Option.none_beq_some, Option.some_beq_none, Bool.false_eq_true, List.all_nil, touch, touchB, Nat.sub_self, List.range'_zero, Nat.add_sub_cancel_left, List.range'_one, h0]) (by simp only [vop, val, argsT, upd_ap, Nat.reduceEqDiff, if_true, if_false, ite_true, ite_false, reduceIte, loadAt, loadA, AV.cells, AV.one, List.all_cons, List.all_nil, ofV, ofCell, plain, List.getElem?_cons_zero, List.getElem?_cons_succ, List.getElem?_toArray, Option.getD_some, Bool.not_true, Bool.not_false, Bool.false_eq_true, Bool.and_true, Bool.true_and, Bool.and_self, Nat.zero_add, Option.map_some, Option.bind_some, List.map_cons, List.map_nil, ev_add, ev_sub, ev_mul, ev_lss, ev_leq, ev_gtr, ev_geq, ev_eql, ev_neq, ev_seql, ev_sneq, ev_sleq, ev_slss, ev_not, ev_min, ev_max, asNat_nat, asNat_zero, asNat_one, asNat_two, asNat_three, vb_len, List.length_cons, List.length_nil, Nat.reduceAdd, Nat.reduceLeDiff, Nat.reduceMul, Int.reduceEq, Int.reduceLT, Int.reduceLE, Int.reduceNeg, Int.reduceAdd, Int.reduceSub, Nat.reduceLT, decide_true, decide_false, not_true_eq_false, not_false_eq_true, and_self, and_true, true_and, storeA, List.take_zero, List.drop_succ_cons, List.drop_zero, List.nil_append, List.append_nil, List.take_succ_cons, List.cons_append, cut_cons, cut_zero, cut_skip, tAt, hHide, hAt, upsAt, List.contains_cons, List.contains_nil, Nat.reduceBEq, Bool.or_true, Bool.true_or, Bool.or_false, Bool.false_or, Bool.or_self, Bool.and_true, Bool.true_and, Bool.and_false, Bool.false_and, beq_self_eq_true (α := Nat), Option.some_beq_some, Option.none_beq_some, Option.some_beq_none, Bool.false_eq_true, List.all_nil, touch, touchB, Nat.sub_self, List.range'_zero, Nat.add_sub_cancel_left, List.range'_one, h3]) (hround k x _ _ _ hI hx (fun h' n' hn' hI' => st_gn hn' rfl ?_) (fun h' n' hn' hq => st_gn hn' rfl ?_))
      · refine wB1 (wa h0 (wa h1 (wa h3 wk))) ?_
        refine ⟨k, by omega, by omega, ?_, ?_, ?_, hI'⟩
        all_goals simp [upd_ap, h0, h1]
      · refine wB1 (wa h0 (wa h1 h3)) ?_
        exact hq
  · simp [upd_ap, argsT, hI]
end Go.Proofs.Bv
namespace Go.Proofs.Bv
open Go
theorem pc225 (G : Nat → Option (List AV)) (cs : List AV) (len : Nat) : Pc (Cf G) 225 [.psl cs len] (.fn (.func 285) [.pptr [.psl cs len] 0]) := by
  refine Pc_of (Gf_enter (C := Cf G) Tryz.func225 rfl ok225 (Nat.le_of_ble_eq_true rfl) ?_)
  simp only [Tryz.f225, Option.getD_some]
  refine wB1 @Array.size_empty.{0} ?_
  all_goals rfl
set_option maxHeartbeats 4000000 in
set_option maxRecDepth 100000 in
theorem pc224 (G : Nat → Option (List AV)) (a e : Nat) (he : e ≤ 20) (ha : a < 10 ^ 20) : Pc (Cf G) 224 [.agg (encD false a e), .sc (.int .i64 0)] (.agg (encD false (a * 10 ^ e) 0)) := by
  have h0 := pc184 G false a e
  by_cases hz : a = 0
  · subst hz
    rw [Nat.zero_mul, decide_eq_true rfl] at *
    unfold encD at h0 ⊢
    refine Pc_of (Gf_enter (C := Cf G) Tryz.func224 rfl ok224 (Nat.le_of_ble_eq_true rfl) ?_)
    simp only [Tryz.f224, Option.getD_some]
    refine wC1 trivial (wa h0 trivial) ?_
    simp only [one1, frz_a, mapF, frz_s, frz_l, Option.map_some, List.append_nil]
  · rw [decide_eq_false hz] at h0
    by_cases hx : e = 0
    · subst hx
      rw [Nat.pow_zero, Nat.mul_one]
      unfold encD at h0 ⊢
      refine Pc_of (Gf_enter (C := Cf G) Tryz.func224 rfl ok224 (Nat.le_of_ble_eq_true rfl) ?_)
      simp only [Tryz.f224, Option.getD_some]
      refine wC1 trivial (wa h0 trivial) ?_
      simp only [one1, frz_a, mapF, frz_s, frz_l, Option.map_some, List.append_nil]
    · have q1 : ¬ (e : Int) = 0 := by omega
      have w1 : IntKind.i64.wrap (e : Int) = e := i64 (by omega) (by omega)
      obtain ⟨b1, b2, b3⟩ := lim_mul ha he
      have h1 := pc284 G e (by omega)
      have h2 := pc283 G a (10 ^ e) b1 b2 b3
      have h3 := pc119 G (u32s (lim (10 ^ e))) (lim (10 ^ e)).length 0
      have h4 := pc119 G (u32s (lim (a * 10 ^ e))) (lim (a * 10 ^ e)).length 0
      unfold lsl at h1 h2
      unfold encD at h0 ⊢
      refine Pc_of (Gf_enter (C := Cf G) Tryz.func224 rfl ok224 (Nat.le_of_ble_eq_true rfl) ?_)
      simp only [Tryz.f224, Option.getD_some]
      refine gC1 (wa q1 (wa w1 @Int.sub_zero)) (wa h0 (wa h1 (wa h2 (wa h3 (wa h4 trivial))))) ?_
      simp only [one1, frz_a, mapF, frz_s, frz_l, Option.map_some, List.append_nil]
end Go.Proofs.Bv
namespace Go.Proofs.Bv
open Go
theorem gf285L (G : Nat → Option (List AV)) (l : List Int) (hl : l.length ≤ 140737488355328) (b : Nat) (L : LoopA) (J : Nat → Heap → Nat → Prop) (Q : AV → Heap → Nat → Prop)
    (hround : ∀ k x h n (K : AV → Heap → Nat → Prop), J (k + 1) h n → h b = some (.loop L) → l[k]? = some x → (∀ h' n', n ≤ n' → J k h' n' → h' b = some (.loop L) → K (.sc (.bool true)) h' n') → (∀ h' n', n ≤ n' → Q (.tup []) h' n' → K (.sc (.bool false)) h' n') →
      Wk (Cf G) (.fn (.yield b) []) [.sc (.int .i64 k), .sc (.int .u32 x)] h n K)
    (hend : ∀ h n, J 0 h n → h b = some (.loop L) → Q (.tup []) h n) {h : Heap} {n : Nat} (hJ : J l.length h n) (hL : h b = some (.loop L)) : Gf (Cf G) 285 [.fn (.yield b) [], .pptr [.psl (u32s l) l.length] 0] h n Q :=
  gf285 G l hl b (fun k h n => J k h n ∧ h b = some (.loop L)) Q (fun k x h n K hI hx hT hF => hround k x h n K hI.1 hI.2 hx (fun h' n' hn hj hl => hT h' n' hn ⟨hj, hl⟩) hF) (fun h n hI => hend h n hI.1 hI.2) ⟨hJ, hL⟩
theorem or_zero {m : Nat} {k : Nat} (hm : m ≤ 4294967295) : IntKind.i64.wrap ((BitVec.ofInt 64 (IntKind.i64.wrap (0 * 2 ^ k)) ||| BitVec.ofInt 64 (m : Int)).toNat : Int) = m := by
  have e0 : IntKind.i64.wrap (0 * 2 ^ k) = 0 := by rw [Int.zero_mul]; exact i64 (by omega) (by omega)
  have e1 : (BitVec.ofInt 64 (m : Int)).toNat = m := by
    rw [BitVec.toNat_ofInt]
    omega
  have e2 : BitVec.ofInt 64 (0 : Int) = 0#64 := rfl
  rw [e0, e2, BitVec.zero_or, e1]
  exact i64 (by omega) (by omega)
set_option maxHeartbeats 4000000 in
set_option maxRecDepth 100000 in
theorem pc163 (G : Nat → Option (List AV)) (m : Nat) (hm : m ≤ 4294967295) : Pc (Cf G) 163 [.agg (encD (intD m).1 (intD m).2.1 (intD m).2.2)] (.tup [.sc (.int .i64 m), .sc (.bool true), .sc (.int .i64 0)]) := by
  obtain ⟨f1, f2, ⟨e, f3, f4, f5⟩, f6⟩ := int_facts (m := m) (by omega)
  rw [f1, f3] at f6 ⊢
  have h1 := pc102 G false (lim (intD m).2.1) e (by have := lim_len 20 _ f2; omega) (lim_limbs _)
  rw [f6] at h1
  have h2 := pc224 G (intD m).2.1 e f4 f2
  rw [f5] at h2
  have h3 := pc225 G (u32s (lim m)) (lim m).length
  have q1 : ¬ (e : Int) < 0 := by omega
  have q2 : ¬ (21 : Int) < (e : Int) := by omega
  have hl1 : lim m = if m = 0 then [] else [(m : Int)] := by
    split
    · rename_i h; rw [h, lim_zero]
    · exact lim_one (by omega) hm
  have hll : (lim m).length ≤ 1 := by rw [hl1]; split <;> simp
  have q3 : ¬ (2 : Int) < ((lim m).length : Int) := by omega
  unfold encD at h2 ⊢
  generalize (intD m).2.1 = a at *
  refine Pc_of (Gf_enter (C := Cf G) Tryz.func163 rfl ok163 (Nat.le_of_ble_eq_true rfl) ?_)
  simp only [Tryz.f163, Option.getD_some]
  refine wC1 (wa q1 (wa q2 q3)) (wa h1 (wa h2 (wa h3 trivial))) ?_
  refine st_abs (fun T => T 1 = .ptr 0 0 ∧ T 7 = .ptr 1 0 ∧ T 32 = .fn (.func 285) [.pptr [.psl (u32s (lim m)) (lim m).length] 0]) ⟨rfl, rfl, rfl⟩ ?_
  rintro T ⟨t1, t7, t32⟩
  refine st_range' (by simp only [vop, val, argsT, upd_ap, Nat.reduceEqDiff, if_true, if_false, ite_true, ite_false, reduceIte, loadAt, loadA, AV.cells, AV.one, List.all_cons, List.all_nil, ofV, ofCell, plain, List.getElem?_cons_zero, List.getElem?_cons_succ, List.getElem?_toArray, Option.getD_some, Bool.not_true, Bool.not_false, Bool.false_eq_true, Bool.and_true, Bool.true_and, Bool.and_self, Nat.zero_add, Option.map_some, Option.bind_some, List.map_cons, List.map_nil, ev_add, ev_sub, ev_mul, ev_lss, ev_leq, ev_gtr, ev_geq, ev_eql, ev_neq, ev_seql, ev_sneq, ev_sleq, ev_slss, ev_not, ev_min, ev_max, asNat_nat, asNat_zero, asNat_one, asNat_two, asNat_three, vb_len, List.length_cons, List.length_nil, Nat.reduceAdd, Nat.reduceLeDiff, Nat.reduceMul, Int.reduceEq, Int.reduceLT, Int.reduceLE, Int.reduceNeg, Int.reduceAdd, Int.reduceSub, Nat.reduceLT, decide_true, decide_false, not_true_eq_false, not_false_eq_true, and_self, and_true, true_and, storeA, List.take_zero, List.drop_succ_cons, List.drop_zero, List.nil_append, List.append_nil, List.take_succ_cons, List.cons_append, cut_cons, cut_zero, cut_skip, tAt, hHide, hAt, upsAt, List.contains_cons, List.contains_nil, Nat.reduceBEq, Bool.or_true, Bool.true_or, Bool.or_false, Bool.false_or, Bool.or_self, Bool.and_true, Bool.true_and, Bool.and_false, Bool.false_and, beq_self_eq_true (α := Nat), Option.some_beq_some, Option.none_beq_some, Option.some_beq_none, Bool.false_eq_true, List.all_nil, touch, touchB, Nat.sub_self, List.range'_zero, Nat.add_sub_cancel_left, List.range'_one, t32]; with_reducible rfl) ?_
  refine gf285L G (lim m) (by omega) _ _ (fun k h n => k ≤ (lim m).length ∧ 3 ≤ n ∧ h 0 = some (.cells [.sc (.bool false), .psl (u32s (lim a)) (lim a).length, .sc (.int .i64 e)] 0 false) ∧ h 1 = some (.cells [.sc (.int .i64 (nv ((lim m).drop k)))] 0 false)) _ ?_ ?_ ⟨Nat.le_refl _, Nat.le_refl _, rfl, ?_⟩ rfl
  · rintro k x h n K ⟨hk, h6, q0, q1⟩ hLp hx hT hF
    have hk0 : k = 0 := by omega
    subst hk0
    have hm0 : ¬ m = 0 := by
      intro h
      rw [hl1, if_pos h] at hx
      simp at hx
    rw [hl1, if_neg hm0] at hx
    have hx : (m : Int) = x := by simpa using hx
    subst hx
    have hd1 : nv ((lim m).drop (0 + 1)) = 0 := by rw [hl1, if_neg hm0]; simp [nv]
    have hd0 : nv ((lim m).drop 0) = m := by rw [List.drop_zero, nv_lim]
    rw [hd1] at q1
    have w2 : IntKind.i64.wrap (m : Int) = m := i64 (by omega) (by omega)
    refine Wk_yield hLp (by kernel_rfl) rfl ?_
    refine wB1 hLp ?_
    refine roundMid_of hLp rfl ?_
    refine wB1 (wa t1 (wa t7 (wa hLp (wa q0 (wa q1 w2))))) ?_
    refine roundEnd_norm (by simp only [vop, val, argsT, upd_ap, Nat.reduceEqDiff, if_true, if_false, ite_true, ite_false, reduceIte, loadAt, loadA, AV.cells, AV.one, List.all_cons, List.all_nil, ofV, ofCell, plain, List.getElem?_cons_zero, List.getElem?_cons_succ, List.getElem?_toArray, Option.getD_some, Bool.not_true, Bool.not_false, Bool.false_eq_true, Bool.and_true, Bool.true_and, Bool.and_self, Nat.zero_add, Option.map_some, Option.bind_some, List.map_cons, List.map_nil, ev_add, ev_sub, ev_mul, ev_lss, ev_leq, ev_gtr, ev_geq, ev_eql, ev_neq, ev_seql, ev_sneq, ev_sleq, ev_slss, ev_not, ev_min, ev_max, asNat_nat, asNat_zero, asNat_one, asNat_two, asNat_three, vb_len, List.length_cons, List.length_nil, Nat.reduceAdd, Nat.reduceLeDiff, Nat.reduceMul, Int.reduceEq, Int.reduceLT, Int.reduceLE, Int.reduceNeg, Int.reduceAdd, Int.reduceSub, Nat.reduceLT, decide_true, decide_false, not_true_eq_false, not_false_eq_true, and_self, and_true, true_and, storeA, List.take_zero, List.drop_succ_cons, List.drop_zero, List.nil_append, List.append_nil, List.take_succ_cons, List.cons_append, cut_cons, cut_zero, cut_skip, tAt, hHide, hAt, upsAt, List.contains_cons, List.contains_nil, Nat.reduceBEq, Bool.or_true, Bool.true_or, Bool.or_false, Bool.false_or, Bool.or_self, Bool.and_true, Bool.true_and, Bool.and_false, Bool.false_and, beq_self_eq_true (α := Nat), Option.some_beq_some, Option.none_beq_some, Option.some_beq_none, Bool.false_eq_true, List.all_nil, touch, touchB, Nat.sub_self, List.range'_zero, Nat.add_sub_cancel_left, List.range'_one]; with_reducible rfl) ?_
    refine hT _ _ (Nat.le_refl _) ⟨by omega, h6, ?_, ?_⟩ ?_
    · simp only [vop, val, argsT, upd_ap, Nat.reduceEqDiff, if_true, if_false, ite_true, ite_false, reduceIte, loadAt, loadA, AV.cells, AV.one, List.all_cons, List.all_nil, ofV, ofCell, plain, List.getElem?_cons_zero, List.getElem?_cons_succ, List.getElem?_toArray, Option.getD_some, Bool.not_true, Bool.not_false, Bool.false_eq_true, Bool.and_true, Bool.true_and, Bool.and_self, Nat.zero_add, Option.map_some, Option.bind_some, List.map_cons, List.map_nil, ev_add, ev_sub, ev_mul, ev_lss, ev_leq, ev_gtr, ev_geq, ev_eql, ev_neq, ev_seql, ev_sneq, ev_sleq, ev_slss, ev_not, ev_min, ev_max, asNat_nat, asNat_zero, asNat_one, asNat_two, asNat_three, vb_len, List.length_cons, List.length_nil, Nat.reduceAdd, Nat.reduceLeDiff, Nat.reduceMul, Int.reduceEq, Int.reduceLT, Int.reduceLE, Int.reduceNeg, Int.reduceAdd, Int.reduceSub, Nat.reduceLT, decide_true, decide_false, not_true_eq_false, not_false_eq_true, and_self, and_true, true_and, storeA, List.take_zero, List.drop_succ_cons, List.drop_zero, List.nil_append, List.append_nil, List.take_succ_cons, List.cons_append, cut_cons, cut_zero, cut_skip, tAt, hHide, hAt, upsAt, List.contains_cons, List.contains_nil, Nat.reduceBEq, Bool.or_true, Bool.true_or, Bool.or_false, Bool.false_or, Bool.or_self, Bool.and_true, Bool.true_and, Bool.and_false, Bool.false_and, beq_self_eq_true (α := Nat), Option.some_beq_some, Option.none_beq_some, Option.some_beq_none, Bool.false_eq_true, List.all_nil, touch, touchB, Nat.sub_self, List.range'_zero, Nat.add_sub_cancel_left, List.range'_one, q0]
    · simp only [vop, val, argsT, upd_ap, Nat.reduceEqDiff, if_true, if_false, ite_true, ite_false, reduceIte, loadAt, loadA, AV.cells, AV.one, List.all_cons, List.all_nil, ofV, ofCell, plain, List.getElem?_cons_zero, List.getElem?_cons_succ, List.getElem?_toArray, Option.getD_some, Bool.not_true, Bool.not_false, Bool.false_eq_true, Bool.and_true, Bool.true_and, Bool.and_self, Nat.zero_add, Option.map_some, Option.bind_some, List.map_cons, List.map_nil, ev_add, ev_sub, ev_mul, ev_lss, ev_leq, ev_gtr, ev_geq, ev_eql, ev_neq, ev_seql, ev_sneq, ev_sleq, ev_slss, ev_not, ev_min, ev_max, asNat_nat, asNat_zero, asNat_one, asNat_two, asNat_three, vb_len, List.length_cons, List.length_nil, Nat.reduceAdd, Nat.reduceLeDiff, Nat.reduceMul, Int.reduceEq, Int.reduceLT, Int.reduceLE, Int.reduceNeg, Int.reduceAdd, Int.reduceSub, Nat.reduceLT, decide_true, decide_false, not_true_eq_false, not_false_eq_true, and_self, and_true, true_and, storeA, List.take_zero, List.drop_succ_cons, List.drop_zero, List.nil_append, List.append_nil, List.take_succ_cons, List.cons_append, cut_cons, cut_zero, cut_skip, tAt, hHide, hAt, upsAt, List.contains_cons, List.contains_nil, Nat.reduceBEq, Bool.or_true, Bool.true_or, Bool.or_false, Bool.false_or, Bool.or_self, Bool.and_true, Bool.true_and, Bool.and_false, Bool.false_and, beq_self_eq_true (α := Nat), Option.some_beq_some, Option.none_beq_some, Option.some_beq_none, Bool.false_eq_true, List.all_nil, touch, touchB, Nat.sub_self, List.range'_zero, Nat.add_sub_cancel_left, List.range'_one, hd0]
      rw [nv_lim]
      exact congrArg (fun z => some (Blk.cells [AV.sc (Value.int IntKind.i64 z)] 0 false)) (or_zero (k := min (Int.toNat 32) 64) hm)
    · simp only [vop, val, argsT, upd_ap, Nat.reduceEqDiff, if_true, if_false, ite_true, ite_false, reduceIte, loadAt, loadA, AV.cells, AV.one, List.all_cons, List.all_nil, ofV, ofCell, plain, List.getElem?_cons_zero, List.getElem?_cons_succ, List.getElem?_toArray, Option.getD_some, Bool.not_true, Bool.not_false, Bool.false_eq_true, Bool.and_true, Bool.true_and, Bool.and_self, Nat.zero_add, Option.map_some, Option.bind_some, List.map_cons, List.map_nil, ev_add, ev_sub, ev_mul, ev_lss, ev_leq, ev_gtr, ev_geq, ev_eql, ev_neq, ev_seql, ev_sneq, ev_sleq, ev_slss, ev_not, ev_min, ev_max, asNat_nat, asNat_zero, asNat_one, asNat_two, asNat_three, vb_len, List.length_cons, List.length_nil, Nat.reduceAdd, Nat.reduceLeDiff, Nat.reduceMul, Int.reduceEq, Int.reduceLT, Int.reduceLE, Int.reduceNeg, Int.reduceAdd, Int.reduceSub, Nat.reduceLT, decide_true, decide_false, not_true_eq_false, not_false_eq_true, and_self, and_true, true_and, storeA, List.take_zero, List.drop_succ_cons, List.drop_zero, List.nil_append, List.append_nil, List.take_succ_cons, List.cons_append, cut_cons, cut_zero, cut_skip, tAt, hHide, hAt, upsAt, List.contains_cons, List.contains_nil, Nat.reduceBEq, Bool.or_true, Bool.true_or, Bool.or_false, Bool.false_or, Bool.or_self, Bool.and_true, Bool.true_and, Bool.and_false, Bool.false_and, beq_self_eq_true (α := Nat), Option.some_beq_some, Option.none_beq_some, Option.some_beq_none, Bool.false_eq_true, List.all_nil, touch, touchB, Nat.sub_self, List.range'_zero, Nat.add_sub_cancel_left, List.range'_one]
  · rintro h n ⟨_, h6, q0, q1⟩ hLp
    refine rangeEnd_norm (by omega) hLp rfl rfl ?_
    rw [List.drop_zero, nv_lim] at q1
    have r1 : ¬ (m : Int) < 0 := by omega
    have r2 : ¬ (9007199254740992 : Int) < (m : Int) := by omega
    refine wB1 (wa t1 (wa t7 (wa hLp (wa q0 (wa q1 (wa r1 r2)))))) ?_
    simp only [one1, frz_t, mapF, frz_s, frz_l, Option.map_some, List.append_nil]
  · simp [upd_ap, nv]
set_option maxHeartbeats 4000000 in
set_option maxRecDepth 100000 in
theorem pc105 (G : Nat → Option (List AV)) (m : Nat) (hm : m ≤ 4294967295) : Pc (Cf G) 105 [.agg (encD (intD m).1 (intD m).2.1 (intD m).2.2), .fn (.func 106) []] (.sc (.int .i64 m)) := by
  have h1 := pc106 G m (by omega)
  have h2 := pc163 G m hm
  unfold encD at h1 h2 ⊢
  generalize intD m = r at *
  refine Pc_of (Gf_enter (C := Cf G) Tryz.func105 rfl ok105 (Nat.le_of_ble_eq_true rfl) ?_)
  simp only [Tryz.f105, Option.getD_some]
  refine wC1 trivial (wa h1 (wa h2 trivial)) ?_
  simp only [one1, frz_s, Option.map_some]
theorem pc56 (G : Nat → Option (List AV)) (m : Nat) (hm : m ≤ 4294967295) : Pc (Cf G) 56 [.agg (encD (intD m).1 (intD m).2.1 (intD m).2.2)] (.sc (.int .i64 m)) := by
  have h1 := pc105 G m hm
  unfold encD at h1 ⊢
  generalize intD m = r at *
  refine Pc_of (Gf_enter (C := Cf G) Tryz.func56 rfl ok56 (Nat.le_of_ble_eq_true rfl) ?_)
  simp only [Tryz.f56, Option.getD_some]
  refine wC1 trivial (wa h1 trivial) ?_
  simp only [one1, frz_s, Option.map_some]
end Go.Proofs.Bv
namespace Go.Proofs.Bv
open Go
theorem ok18 : codeOk 51 (Tryz.f18.body.getD .skip) = true := by kernel_rfl
theorem ok16 : codeOk 47 (Tryz.f16.body.getD .skip) = true := by kernel_rfl
set_option maxHeartbeats 8000000 in
set_option maxRecDepth 100000 in
theorem pc18T (G : Nat → Option (List AV)) (ng : Bool) (cf : List Int) (ex : Int) (t : ByteArray) (l : List JV) (ks : List ByteArray) (s : ByteArray)
    (hv : Fit (.mk 6 ng cf ex t l ks)) (hw : Fit (textV s)) (hc : chks [.mk 6 ng cf ex t l ks, textV s] = 0) :
    Pc (Cf G) 18 [.agg (enc (.mk 6 ng cf ex t l ks)), .agg (enc (textV s))] (.tup [.sc (.bool (decide (0 ≤ idxS ks s 0))), .sc (.int .i64 0)]) := by
  have h1 := pc54 G [.mk 6 ng cf ex t l ks, textV s] (by simp) ⟨hv, hw, trivial⟩
  rw [hc] at h1
  have h2 := pc55 G ks s (by have := hv.1.nkeys; omega)
  simp only [textV, enc, encs, List.cons_append, List.nil_append, List.append_nil, List.length_nil] at h1 ⊢
  simp only [List.length_cons, List.length_nil, Nat.zero_add, Nat.reduceAdd] at h1
  refine Pc_of (Gf_enter (C := Cf G) Tryz.func18 rfl ok18 (Nat.le_of_ble_eq_true rfl) ?_)
  simp only [Tryz.f18, Option.getD_some]
  refine wC1 trivial (wa h1 (wa h2 trivial)) ?_
  simp only [one1, frz_t, mapF, frz_s, Option.map_some, List.append_nil]
set_option maxHeartbeats 8000000 in
set_option maxRecDepth 100000 in
theorem pc18N (G : Nat → Option (List AV)) (ng : Bool) (cf : List Int) (ex : Int) (t : ByteArray) (l : List JV) (ks : List ByteArray) (m : Nat) (hm : m ≤ 4294967295)
    (hv : Fit (.mk 5 ng cf ex t l ks)) (hw : Fit (numV m)) (hc : chks [.mk 5 ng cf ex t l ks, numV m] = 0) :
    Pc (Cf G) 18 [.agg (enc (.mk 5 ng cf ex t l ks)), .agg (enc (numV m))] (.tup [.sc (.bool (decide (m < l.length))), .sc (.int .i64 0)]) := by
  have h1 := pc54 G [.mk 5 ng cf ex t l ks, numV m] (by simp) ⟨hv, hw, trivial⟩
  rw [hc] at h1
  have h2 := pc56 G m hm
  unfold encD at h2
  simp only [numV, enc, encs, List.cons_append, List.nil_append, List.append_nil, List.length_nil] at h1 ⊢
  simp only [List.length_cons, List.length_nil, Nat.zero_add, Nat.reduceAdd] at h1
  have q1 : (0 : Int) ≤ (m : Int) := by omega
  generalize intD m = r at *
  by_cases hlt : m < l.length
  · rw [decide_eq_true hlt]
    have q2 : (m : Int) < (l.length : Int) := by omega
    refine Pc_of (Gf_enter (C := Cf G) Tryz.func18 rfl ok18 (Nat.le_of_ble_eq_true rfl) ?_)
    simp only [Tryz.f18, Option.getD_some]
    refine wC1 (wa q1 q2) (wa h1 (wa h2 trivial)) ?_
    simp only [one1, frz_t, mapF, frz_s, Option.map_some, List.append_nil]
  · rw [decide_eq_false hlt]
    have q2 : ¬ (m : Int) < (l.length : Int) := by omega
    refine Pc_of (Gf_enter (C := Cf G) Tryz.func18 rfl ok18 (Nat.le_of_ble_eq_true rfl) ?_)
    simp only [Tryz.f18, Option.getD_some]
    refine wC1 (wa q1 q2) (wa h1 (wa h2 trivial)) ?_
    simp only [one1, frz_t, mapF, frz_s, Option.map_some, List.append_nil]
set_option maxHeartbeats 8000000 in
set_option maxRecDepth 100000 in
theorem pc18X (G : Nat → Option (List AV)) (ng : Bool) (cf : List Int) (ex : Int) (t : ByteArray) (l : List JV) (ks : List ByteArray) (m : Nat)
    (hv : Fit (.mk 6 ng cf ex t l ks)) (hw : Fit (numV m)) (hc : chks [.mk 6 ng cf ex t l ks, numV m] = 0) :
    Pc (Cf G) 18 [.agg (enc (.mk 6 ng cf ex t l ks)), .agg (enc (numV m))] (.tup [.sc (.bool false), .sc (.int .i64 41)]) := by
  have h1 := pc54 G [.mk 6 ng cf ex t l ks, numV m] (by simp) ⟨hv, hw, trivial⟩
  rw [hc] at h1
  simp only [numV, enc, encs, List.cons_append, List.nil_append, List.append_nil, List.length_nil] at h1 ⊢
  simp only [List.length_cons, List.length_nil, Nat.zero_add, Nat.reduceAdd] at h1
  generalize intD m = r at *
  refine Pc_of (Gf_enter (C := Cf G) Tryz.func18 rfl ok18 (Nat.le_of_ble_eq_true rfl) ?_)
  simp only [Tryz.f18, Option.getD_some]
  refine wC1 trivial (wa h1 trivial) ?_
  simp only [one1, frz_t, mapF, frz_s, Option.map_some, List.append_nil]
end Go.Proofs.Bv
namespace Go.Proofs.Bv
open Go
def OwnV (x : AV) (h : Heap) (n lo : Nat) (l : List JV) : Prop := (x = .nilS ∧ l = []) ∨ ∃ b, x = .osl b 0 l.length ∧ h b = some (.cells (encs l) 7 false) ∧ lo ≤ b ∧ b < n
theorem encs_snoc (d : List JV) (x : JV) : encs d ++ enc x = encs (d ++ [x]) := by rw [encs_app]; simp [encs]
set_option maxHeartbeats 8000000 in
set_option maxRecDepth 100000 in
theorem pc16T (G : Nat → Option (List AV)) (ng : Bool) (cf : List Int) (ex : Int) (t : ByteArray) (l : List JV) (ks : List ByteArray)
    (hv : Fit (.mk 6 ng cf ex t l ks)) (hc : chk (.mk 6 ng cf ex t l ks) = 0) (hl : ks.length = l.length) (hk : l.length ≤ 4096) :
    Pc (Cf G) 16 [.agg (enc (.mk 6 ng cf ex t l ks))] (.tup [.agg (enc (.mk 5 false [] 0 ⟨#[]⟩ (ks.map textV) [])), .sc (.int .i64 0)]) := by
  have h1 := pc44 G (.mk 6 ng cf ex t l ks) hv
  rw [hc] at h1
  simp only [enc] at h1 ⊢
  refine Pc_of (Gf_enter (C := Cf G) Tryz.func16 rfl ok16 (Nat.le_of_ble_eq_true rfl) ?_)
  simp only [Tryz.f16, Option.getD_some]
  refine wC1 trivial (wa h1 trivial) ?_
  refine Gc_loop_inv (fun m st => ∃ d r, ks = d ++ r ∧ m = r.length ∧ 3 ≤ st.n ∧ st.T 1 = .ptr 0 0 ∧ st.T 2 = .ptr 1 0 ∧ st.T 5 = .ptr 2 0 ∧ st.T 20 = .sc (.int .i64 l.length) ∧ st.T 21 = .sc (.int .i64 d.length) ∧
    st.h 0 = some (.cells [.sc (.int .i64 6), .sc (.bool ng), .psl (u32s cf) cf.length, .sc (.int .i64 ex), .sc (.string t), .psl (encs l) l.length, .psl (strs ks) ks.length] 0 false) ∧
    st.h 1 = some (.cells [.sc (.int .i64 0), .sc (.bool false), .nilS, .sc (.int .i64 0), .sc (.string ⟨#[]⟩), .nilS, .nilS] 0 false) ∧
    ∃ x, st.h 2 = some (.cells [.sc (.int .i64 5), .sc (.bool false), .nilS, .sc (.int .i64 0), .sc (.string ⟨#[]⟩), x, .nilS] 0 false) ∧ OwnV x st.h st.n 3 (d.map textV)) ?_ ks.length _ ⟨[], ks, rfl, rfl, Nat.le_refl _, rfl, rfl, rfl, rfl, rfl, rfl, rfl, .nilS, rfl, .inl ⟨rfl, rfl⟩⟩
  · rintro m ⟨T, h, n⟩ ⟨d, r, hdr, rfl, hn3, t1, t2, t5, t20, t21, q0, r1, x, q2, ho⟩
    simp only at hn3 t1 t2 t5 t20 t21 q0 r1 q2 ho
    cases r with
    | nil =>
      have e : d = ks := by rw [hdr]; simp
      subst e
      have hge : ¬ (d.length : Int) < (l.length : Int) := by omega
      rcases ho with ⟨rfl, hd0⟩ | ⟨b, rfl, hb, hb3, hbn⟩
      · have hd1 : d = [] := List.map_eq_nil_iff.1 hd0
        refine wB1 (wa t1 (wa t2 (wa t5 (wa t20 (wa t21 (wa q0 (wa r1 (wa q2 hge)))))))) ?_
        subst hd1
        simp only [one1, frz_t, frz_a, mapF, frz_s, frz_n, Option.map_some, List.append_nil]
        rfl
      · have z1 : ¬ b = 1 := by omega
        have z2 : ¬ b = 2 := by omega
        have z3 : ¬ b = 0 := by omega
        refine wB1 (wa t1 (wa t2 (wa t5 (wa t20 (wa t21 (wa q0 (wa r1 (wa q2 (wa hge (wa hb (wa z1 (wa z2 z3)))))))))))) ?_
        simp only [one1, frz_t, frz_a, mapF, frz_s, frz_n, Option.map_some, List.append_nil]
        rw [frz_w (es := 7) (fz := false) (cs := encs (d.map textV)) (by simp only [upd_ap, if_neg z1]; exact hb) (by rw [encs_len]) (encs_pur _)]
        rfl
    | cons s r =>
      have hltk : d.length < ks.length := by rw [hdr]; simp
      have hlt : (d.length : Int) < (l.length : Int) := by omega
      have hx : (strs ks)[d.length * 1]? = some (.sc (.string s)) := by rw [hdr]; simp [strs]
      have h2 := pc50 G s
      simp only [textV, enc, encs, List.length_nil] at h2
      have w4 : IntKind.i64.wrap ((d.length : Int) + 1) = (d.length : Int) + 1 := i64 (by omega) (by omega)
      have xp0 : ¬ 0 = n := by omega
      have yp0 : (0 == n) = false := beq_false_of_ne (by omega)
      have xq0 : ¬ n = 0 := by omega
      have yq0 : (n == 0) = false := beq_false_of_ne (by omega)
      have xp1 : ¬ 1 = n := by omega
      have yp1 : (1 == n) = false := beq_false_of_ne (by omega)
      have xq1 : ¬ n = 1 := by omega
      have yq1 : (n == 1) = false := beq_false_of_ne (by omega)
      have xp2 : ¬ 2 = n := by omega
      have yp2 : (2 == n) = false := beq_false_of_ne (by omega)
      have xq2 : ¬ n = 2 := by omega
      have yq2 : (n == 2) = false := beq_false_of_ne (by omega)
      have xp3 : ¬ 0 = n + 1 := by omega
      have yp3 : (0 == n + 1) = false := beq_false_of_ne (by omega)
      have xq3 : ¬ n + 1 = 0 := by omega
      have yq3 : (n + 1 == 0) = false := beq_false_of_ne (by omega)
      have xp4 : ¬ 1 = n + 1 := by omega
      have yp4 : (1 == n + 1) = false := beq_false_of_ne (by omega)
      have xq4 : ¬ n + 1 = 1 := by omega
      have yq4 : (n + 1 == 1) = false := beq_false_of_ne (by omega)
      have xp5 : ¬ 2 = n + 1 := by omega
      have yp5 : (2 == n + 1) = false := beq_false_of_ne (by omega)
      have xq5 : ¬ n + 1 = 2 := by omega
      have yq5 : (n + 1 == 2) = false := beq_false_of_ne (by omega)
      have xp6 : ¬ n = n + 1 := by omega
      have yp6 : (n == n + 1) = false := beq_false_of_ne (by omega)
      have xq6 : ¬ n + 1 = n := by omega
      have yq6 : (n + 1 == n) = false := beq_false_of_ne (by omega)
      rcases ho with ⟨rfl, hd0⟩ | ⟨b, rfl, hb, hb3, hbn⟩
      · refine gC1 (wa t1 (wa t2 (wa t5 (wa t20 (wa t21 (wa q0 (wa q2 (wa hltk (wa hlt (wa hx (wa w4 (wa xp0 (wa yp0 (wa xq0 (wa yq0 (wa xp1 (wa yp1 (wa xq1 (wa yq1 (wa xp2 (wa yp2 (wa xq2 (wa yq2 (wa xp3 (wa yp3 (wa xq3 (wa yq3 (wa xp4 (wa yp4 (wa xq4 (wa yq4 (wa xp5 (wa yp5 (wa xq5 (wa yq5 (wa xp6 (wa yp6 (wa xq6 yq6)))))))))))))))))))))))))))))))))))))) (wa h2 trivial) ?_
        have hd1 : d = [] := List.map_eq_nil_iff.1 hd0
        subst hd1
        refine ⟨r.length, by simp, [s], r, by rw [hdr]; simp, rfl, by simp only; omega, ?_, ?_, ?_, ?_, ?_, ?_, ?_, .osl (n + 1) 0 1, ?_, .inr ⟨n + 1, rfl, ?_, by omega, by simp only; omega⟩⟩
        · simp only [vop, val, argsT, upd_ap, Nat.reduceEqDiff, if_true, if_false, ite_true, ite_false, reduceIte, loadAt, loadA, AV.cells, AV.one, List.all_cons, List.all_nil, ofV, ofCell, plain, List.getElem?_cons_zero, List.getElem?_cons_succ, List.getElem?_toArray, Option.getD_some, Bool.not_true, Bool.not_false, Bool.false_eq_true, Bool.and_true, Bool.true_and, Bool.and_self, Nat.zero_add, Option.map_some, Option.bind_some, List.map_cons, List.map_nil, ev_add, ev_sub, ev_mul, ev_lss, ev_leq, ev_gtr, ev_geq, ev_eql, ev_neq, ev_seql, ev_sneq, ev_sleq, ev_slss, ev_not, ev_min, ev_max, asNat_nat, asNat_zero, asNat_one, asNat_two, asNat_three, vb_len, List.length_cons, List.length_nil, Nat.reduceAdd, Nat.reduceLeDiff, Nat.reduceMul, Int.reduceEq, Int.reduceLT, Int.reduceLE, Int.reduceNeg, Int.reduceAdd, Int.reduceSub, Nat.reduceLT, decide_true, decide_false, not_true_eq_false, not_false_eq_true, and_self, and_true, true_and, storeA, List.take_zero, List.drop_succ_cons, List.drop_zero, List.nil_append, List.append_nil, List.take_succ_cons, List.cons_append, cut_cons, cut_zero, cut_skip, tAt, hHide, hAt, upsAt, List.contains_cons, List.contains_nil, Nat.reduceBEq, Bool.or_true, Bool.true_or, Bool.or_false, Bool.false_or, Bool.or_self, Bool.and_true, Bool.true_and, Bool.and_false, Bool.false_and, beq_self_eq_true (α := Nat), Option.some_beq_some, Option.none_beq_some, Option.some_beq_none, Bool.false_eq_true, List.all_nil, touch, touchB, Nat.sub_self, List.range'_zero, Nat.add_sub_cancel_left, List.range'_one, t1]
        · simp only [vop, val, argsT, upd_ap, Nat.reduceEqDiff, if_true, if_false, ite_true, ite_false, reduceIte, loadAt, loadA, AV.cells, AV.one, List.all_cons, List.all_nil, ofV, ofCell, plain, List.getElem?_cons_zero, List.getElem?_cons_succ, List.getElem?_toArray, Option.getD_some, Bool.not_true, Bool.not_false, Bool.false_eq_true, Bool.and_true, Bool.true_and, Bool.and_self, Nat.zero_add, Option.map_some, Option.bind_some, List.map_cons, List.map_nil, ev_add, ev_sub, ev_mul, ev_lss, ev_leq, ev_gtr, ev_geq, ev_eql, ev_neq, ev_seql, ev_sneq, ev_sleq, ev_slss, ev_not, ev_min, ev_max, asNat_nat, asNat_zero, asNat_one, asNat_two, asNat_three, vb_len, List.length_cons, List.length_nil, Nat.reduceAdd, Nat.reduceLeDiff, Nat.reduceMul, Int.reduceEq, Int.reduceLT, Int.reduceLE, Int.reduceNeg, Int.reduceAdd, Int.reduceSub, Nat.reduceLT, decide_true, decide_false, not_true_eq_false, not_false_eq_true, and_self, and_true, true_and, storeA, List.take_zero, List.drop_succ_cons, List.drop_zero, List.nil_append, List.append_nil, List.take_succ_cons, List.cons_append, cut_cons, cut_zero, cut_skip, tAt, hHide, hAt, upsAt, List.contains_cons, List.contains_nil, Nat.reduceBEq, Bool.or_true, Bool.true_or, Bool.or_false, Bool.false_or, Bool.or_self, Bool.and_true, Bool.true_and, Bool.and_false, Bool.false_and, beq_self_eq_true (α := Nat), Option.some_beq_some, Option.none_beq_some, Option.some_beq_none, Bool.false_eq_true, List.all_nil, touch, touchB, Nat.sub_self, List.range'_zero, Nat.add_sub_cancel_left, List.range'_one, t2]
        · simp only [vop, val, argsT, upd_ap, Nat.reduceEqDiff, if_true, if_false, ite_true, ite_false, reduceIte, loadAt, loadA, AV.cells, AV.one, List.all_cons, List.all_nil, ofV, ofCell, plain, List.getElem?_cons_zero, List.getElem?_cons_succ, List.getElem?_toArray, Option.getD_some, Bool.not_true, Bool.not_false, Bool.false_eq_true, Bool.and_true, Bool.true_and, Bool.and_self, Nat.zero_add, Option.map_some, Option.bind_some, List.map_cons, List.map_nil, ev_add, ev_sub, ev_mul, ev_lss, ev_leq, ev_gtr, ev_geq, ev_eql, ev_neq, ev_seql, ev_sneq, ev_sleq, ev_slss, ev_not, ev_min, ev_max, asNat_nat, asNat_zero, asNat_one, asNat_two, asNat_three, vb_len, List.length_cons, List.length_nil, Nat.reduceAdd, Nat.reduceLeDiff, Nat.reduceMul, Int.reduceEq, Int.reduceLT, Int.reduceLE, Int.reduceNeg, Int.reduceAdd, Int.reduceSub, Nat.reduceLT, decide_true, decide_false, not_true_eq_false, not_false_eq_true, and_self, and_true, true_and, storeA, List.take_zero, List.drop_succ_cons, List.drop_zero, List.nil_append, List.append_nil, List.take_succ_cons, List.cons_append, cut_cons, cut_zero, cut_skip, tAt, hHide, hAt, upsAt, List.contains_cons, List.contains_nil, Nat.reduceBEq, Bool.or_true, Bool.true_or, Bool.or_false, Bool.false_or, Bool.or_self, Bool.and_true, Bool.true_and, Bool.and_false, Bool.false_and, beq_self_eq_true (α := Nat), Option.some_beq_some, Option.none_beq_some, Option.some_beq_none, Bool.false_eq_true, List.all_nil, touch, touchB, Nat.sub_self, List.range'_zero, Nat.add_sub_cancel_left, List.range'_one, t5]
        · simp only [vop, val, argsT, upd_ap, Nat.reduceEqDiff, if_true, if_false, ite_true, ite_false, reduceIte, loadAt, loadA, AV.cells, AV.one, List.all_cons, List.all_nil, ofV, ofCell, plain, List.getElem?_cons_zero, List.getElem?_cons_succ, List.getElem?_toArray, Option.getD_some, Bool.not_true, Bool.not_false, Bool.false_eq_true, Bool.and_true, Bool.true_and, Bool.and_self, Nat.zero_add, Option.map_some, Option.bind_some, List.map_cons, List.map_nil, ev_add, ev_sub, ev_mul, ev_lss, ev_leq, ev_gtr, ev_geq, ev_eql, ev_neq, ev_seql, ev_sneq, ev_sleq, ev_slss, ev_not, ev_min, ev_max, asNat_nat, asNat_zero, asNat_one, asNat_two, asNat_three, vb_len, List.length_cons, List.length_nil, Nat.reduceAdd, Nat.reduceLeDiff, Nat.reduceMul, Int.reduceEq, Int.reduceLT, Int.reduceLE, Int.reduceNeg, Int.reduceAdd, Int.reduceSub, Nat.reduceLT, decide_true, decide_false, not_true_eq_false, not_false_eq_true, and_self, and_true, true_and, storeA, List.take_zero, List.drop_succ_cons, List.drop_zero, List.nil_append, List.append_nil, List.take_succ_cons, List.cons_append, cut_cons, cut_zero, cut_skip, tAt, hHide, hAt, upsAt, List.contains_cons, List.contains_nil, Nat.reduceBEq, Bool.or_true, Bool.true_or, Bool.or_false, Bool.false_or, Bool.or_self, Bool.and_true, Bool.true_and, Bool.and_false, Bool.false_and, beq_self_eq_true (α := Nat), Option.some_beq_some, Option.none_beq_some, Option.some_beq_none, Bool.false_eq_true, List.all_nil, touch, touchB, Nat.sub_self, List.range'_zero, Nat.add_sub_cancel_left, List.range'_one, t20]
        · simp [upd_ap]
        · simp only [vop, val, argsT, upd_ap, Nat.reduceEqDiff, if_true, if_false, ite_true, ite_false, reduceIte, loadAt, loadA, AV.cells, AV.one, List.all_cons, List.all_nil, ofV, ofCell, plain, List.getElem?_cons_zero, List.getElem?_cons_succ, List.getElem?_toArray, Option.getD_some, Bool.not_true, Bool.not_false, Bool.false_eq_true, Bool.and_true, Bool.true_and, Bool.and_self, Nat.zero_add, Option.map_some, Option.bind_some, List.map_cons, List.map_nil, ev_add, ev_sub, ev_mul, ev_lss, ev_leq, ev_gtr, ev_geq, ev_eql, ev_neq, ev_seql, ev_sneq, ev_sleq, ev_slss, ev_not, ev_min, ev_max, asNat_nat, asNat_zero, asNat_one, asNat_two, asNat_three, vb_len, List.length_cons, List.length_nil, Nat.reduceAdd, Nat.reduceLeDiff, Nat.reduceMul, Int.reduceEq, Int.reduceLT, Int.reduceLE, Int.reduceNeg, Int.reduceAdd, Int.reduceSub, Nat.reduceLT, decide_true, decide_false, not_true_eq_false, not_false_eq_true, and_self, and_true, true_and, storeA, List.take_zero, List.drop_succ_cons, List.drop_zero, List.nil_append, List.append_nil, List.take_succ_cons, List.cons_append, cut_cons, cut_zero, cut_skip, tAt, hHide, hAt, upsAt, List.contains_cons, List.contains_nil, Nat.reduceBEq, Bool.or_true, Bool.true_or, Bool.or_false, Bool.false_or, Bool.or_self, Bool.and_true, Bool.true_and, Bool.and_false, Bool.false_and, beq_self_eq_true (α := Nat), Option.some_beq_some, Option.none_beq_some, Option.some_beq_none, Bool.false_eq_true, List.all_nil, touch, touchB, Nat.sub_self, List.range'_zero, Nat.add_sub_cancel_left, List.range'_one, q0, xp0, yp0, xq0, yq0, xp1, yp1, xq1, yq1, xp2, yp2, xq2, yq2, xp3, yp3, xq3, yq3, xp4, yp4, xq4, yq4, xp5, yp5, xq5, yq5, xp6, yp6, xq6, yq6]
        · simp only [vop, val, argsT, upd_ap, Nat.reduceEqDiff, if_true, if_false, ite_true, ite_false, reduceIte, loadAt, loadA, AV.cells, AV.one, List.all_cons, List.all_nil, ofV, ofCell, plain, List.getElem?_cons_zero, List.getElem?_cons_succ, List.getElem?_toArray, Option.getD_some, Bool.not_true, Bool.not_false, Bool.false_eq_true, Bool.and_true, Bool.true_and, Bool.and_self, Nat.zero_add, Option.map_some, Option.bind_some, List.map_cons, List.map_nil, ev_add, ev_sub, ev_mul, ev_lss, ev_leq, ev_gtr, ev_geq, ev_eql, ev_neq, ev_seql, ev_sneq, ev_sleq, ev_slss, ev_not, ev_min, ev_max, asNat_nat, asNat_zero, asNat_one, asNat_two, asNat_three, vb_len, List.length_cons, List.length_nil, Nat.reduceAdd, Nat.reduceLeDiff, Nat.reduceMul, Int.reduceEq, Int.reduceLT, Int.reduceLE, Int.reduceNeg, Int.reduceAdd, Int.reduceSub, Nat.reduceLT, decide_true, decide_false, not_true_eq_false, not_false_eq_true, and_self, and_true, true_and, storeA, List.take_zero, List.drop_succ_cons, List.drop_zero, List.nil_append, List.append_nil, List.take_succ_cons, List.cons_append, cut_cons, cut_zero, cut_skip, tAt, hHide, hAt, upsAt, List.contains_cons, List.contains_nil, Nat.reduceBEq, Bool.or_true, Bool.true_or, Bool.or_false, Bool.false_or, Bool.or_self, Bool.and_true, Bool.true_and, Bool.and_false, Bool.false_and, beq_self_eq_true (α := Nat), Option.some_beq_some, Option.none_beq_some, Option.some_beq_none, Bool.false_eq_true, List.all_nil, touch, touchB, Nat.sub_self, List.range'_zero, Nat.add_sub_cancel_left, List.range'_one, r1, xp0, yp0, xq0, yq0, xp1, yp1, xq1, yq1, xp2, yp2, xq2, yq2, xp3, yp3, xq3, yq3, xp4, yp4, xq4, yq4, xp5, yp5, xq5, yq5, xp6, yp6, xq6, yq6]
        · simp only [vop, val, argsT, upd_ap, Nat.reduceEqDiff, if_true, if_false, ite_true, ite_false, reduceIte, loadAt, loadA, AV.cells, AV.one, List.all_cons, List.all_nil, ofV, ofCell, plain, List.getElem?_cons_zero, List.getElem?_cons_succ, List.getElem?_toArray, Option.getD_some, Bool.not_true, Bool.not_false, Bool.false_eq_true, Bool.and_true, Bool.true_and, Bool.and_self, Nat.zero_add, Option.map_some, Option.bind_some, List.map_cons, List.map_nil, ev_add, ev_sub, ev_mul, ev_lss, ev_leq, ev_gtr, ev_geq, ev_eql, ev_neq, ev_seql, ev_sneq, ev_sleq, ev_slss, ev_not, ev_min, ev_max, asNat_nat, asNat_zero, asNat_one, asNat_two, asNat_three, vb_len, List.length_cons, List.length_nil, Nat.reduceAdd, Nat.reduceLeDiff, Nat.reduceMul, Int.reduceEq, Int.reduceLT, Int.reduceLE, Int.reduceNeg, Int.reduceAdd, Int.reduceSub, Nat.reduceLT, decide_true, decide_false, not_true_eq_false, not_false_eq_true, and_self, and_true, true_and, storeA, List.take_zero, List.drop_succ_cons, List.drop_zero, List.nil_append, List.append_nil, List.take_succ_cons, List.cons_append, cut_cons, cut_zero, cut_skip, tAt, hHide, hAt, upsAt, List.contains_cons, List.contains_nil, Nat.reduceBEq, Bool.or_true, Bool.true_or, Bool.or_false, Bool.false_or, Bool.or_self, Bool.and_true, Bool.true_and, Bool.and_false, Bool.false_and, beq_self_eq_true (α := Nat), Option.some_beq_some, Option.none_beq_some, Option.some_beq_none, Bool.false_eq_true, List.all_nil, touch, touchB, Nat.sub_self, List.range'_zero, Nat.add_sub_cancel_left, List.range'_one, q2, xp0, yp0, xq0, yq0, xp1, yp1, xq1, yq1, xp2, yp2, xq2, yq2, xp3, yp3, xq3, yq3, xp4, yp4, xq4, yq4, xp5, yp5, xq5, yq5, xp6, yp6, xq6, yq6]
        · simp only [vop, val, argsT, upd_ap, Nat.reduceEqDiff, if_true, if_false, ite_true, ite_false, reduceIte, loadAt, loadA, AV.cells, AV.one, List.all_cons, List.all_nil, ofV, ofCell, plain, List.getElem?_cons_zero, List.getElem?_cons_succ, List.getElem?_toArray, Option.getD_some, Bool.not_true, Bool.not_false, Bool.false_eq_true, Bool.and_true, Bool.true_and, Bool.and_self, Nat.zero_add, Option.map_some, Option.bind_some, List.map_cons, List.map_nil, ev_add, ev_sub, ev_mul, ev_lss, ev_leq, ev_gtr, ev_geq, ev_eql, ev_neq, ev_seql, ev_sneq, ev_sleq, ev_slss, ev_not, ev_min, ev_max, asNat_nat, asNat_zero, asNat_one, asNat_two, asNat_three, vb_len, List.length_cons, List.length_nil, Nat.reduceAdd, Nat.reduceLeDiff, Nat.reduceMul, Int.reduceEq, Int.reduceLT, Int.reduceLE, Int.reduceNeg, Int.reduceAdd, Int.reduceSub, Nat.reduceLT, decide_true, decide_false, not_true_eq_false, not_false_eq_true, and_self, and_true, true_and, storeA, List.take_zero, List.drop_succ_cons, List.drop_zero, List.nil_append, List.append_nil, List.take_succ_cons, List.cons_append, cut_cons, cut_zero, cut_skip, tAt, hHide, hAt, upsAt, List.contains_cons, List.contains_nil, Nat.reduceBEq, Bool.or_true, Bool.true_or, Bool.or_false, Bool.false_or, Bool.or_self, Bool.and_true, Bool.true_and, Bool.and_false, Bool.false_and, beq_self_eq_true (α := Nat), Option.some_beq_some, Option.none_beq_some, Option.some_beq_none, Bool.false_eq_true, List.all_nil, touch, touchB, Nat.sub_self, List.range'_zero, Nat.add_sub_cancel_left, List.range'_one, xp0, yp0, xq0, yq0, xp1, yp1, xq1, yq1, xp2, yp2, xq2, yq2, xp3, yp3, xq3, yq3, xp4, yp4, xq4, yq4, xp5, yp5, xq5, yq5, xp6, yp6, xq6, yq6, encs, enc, List.map_cons, List.map_nil, textV, List.append_nil, List.length_nil]
      · have z1 : ¬ b = n := by omega
        have z2 : (b == n) = false := beq_false_of_ne (by omega)
        have z3 : ¬ n = b := by omega
        have z4 : (n == b) = false := beq_false_of_ne (by omega)
        have z5 : ¬ b = n + 1 := by omega
        have z6 : (b == n + 1) = false := beq_false_of_ne (by omega)
        have z7 : ¬ n + 1 = b := by omega
        have z8 : (n + 1 == b) = false := beq_false_of_ne (by omega)
        have z9 : ¬ 0 = b := by omega
        have z10 : ¬ 1 = b := by omega
        have z11 : ¬ 2 = b := by omega
        have z12 : ¬ b = 0 := by omega
        have z13 : ¬ b = 1 := by omega
        have z14 : ¬ b = 2 := by omega
        have z15 : (b == 2) = false := beq_false_of_ne (by omega)
        have z16 : (2 == b) = false := beq_false_of_ne (by omega)
        rw [List.length_map] at *
        have g1 : (d.length + 1) * 112 ≤ 140737488355328 := by omega
        have g2 : d.length + 1 ≤ 140737488355328 := by omega
        have g3 : d.length * 7 ≤ (encs (d.map textV)).length := by rw [encs_len, List.length_map]; exact Nat.le_refl _
        have g4 : cut (encs (d.map textV)) 0 (d.length * 7) = encs (d.map textV) := by rw [cut, List.drop_zero, List.take_of_length_le (by rw [encs_len, List.length_map]; exact Nat.le_refl _)]
        refine gC1 (wa t1 (wa t2 (wa t5 (wa t20 (wa t21 (wa q0 (wa q2 (wa hb (wa hltk (wa hlt (wa hx (wa w4 (wa xp0 (wa yp0 (wa xq0 (wa yq0 (wa xp1 (wa yp1 (wa xq1 (wa yq1 (wa xp2 (wa yp2 (wa xq2 (wa yq2 (wa xp3 (wa yp3 (wa xq3 (wa yq3 (wa xp4 (wa yp4 (wa xq4 (wa yq4 (wa xp5 (wa yp5 (wa xq5 (wa yq5 (wa xp6 (wa yp6 (wa xq6 (wa yq6 (wa z1 (wa z2 (wa z3 (wa z4 (wa z5 (wa z6 (wa z7 (wa z8 (wa z9 (wa z10 (wa z11 (wa z12 (wa z13 (wa z14 (wa z15 (wa z16 (wa g1 (wa g2 (wa g3 g4))))))))))))))))))))))))))))))))))))))))))))))))))))))))))) (wa h2 trivial) ?_
        refine ⟨r.length, by simp, d ++ [s], r, by rw [hdr]; simp, rfl, by simp only; omega, ?_, ?_, ?_, ?_, ?_, ?_, ?_, .osl (n + 1) 0 (d.length + 1), ?_, .inr ⟨n + 1, by simp, ?_, by omega, by simp only; omega⟩⟩
        · simp only [vop, val, argsT, upd_ap, Nat.reduceEqDiff, if_true, if_false, ite_true, ite_false, reduceIte, loadAt, loadA, AV.cells, AV.one, List.all_cons, List.all_nil, ofV, ofCell, plain, List.getElem?_cons_zero, List.getElem?_cons_succ, List.getElem?_toArray, Option.getD_some, Bool.not_true, Bool.not_false, Bool.false_eq_true, Bool.and_true, Bool.true_and, Bool.and_self, Nat.zero_add, Option.map_some, Option.bind_some, List.map_cons, List.map_nil, ev_add, ev_sub, ev_mul, ev_lss, ev_leq, ev_gtr, ev_geq, ev_eql, ev_neq, ev_seql, ev_sneq, ev_sleq, ev_slss, ev_not, ev_min, ev_max, asNat_nat, asNat_zero, asNat_one, asNat_two, asNat_three, vb_len, List.length_cons, List.length_nil, Nat.reduceAdd, Nat.reduceLeDiff, Nat.reduceMul, Int.reduceEq, Int.reduceLT, Int.reduceLE, Int.reduceNeg, Int.reduceAdd, Int.reduceSub, Nat.reduceLT, decide_true, decide_false, not_true_eq_false, not_false_eq_true, and_self, and_true, true_and, storeA, List.take_zero, List.drop_succ_cons, List.drop_zero, List.nil_append, List.append_nil, List.take_succ_cons, List.cons_append, cut_cons, cut_zero, cut_skip, tAt, hHide, hAt, upsAt, List.contains_cons, List.contains_nil, Nat.reduceBEq, Bool.or_true, Bool.true_or, Bool.or_false, Bool.false_or, Bool.or_self, Bool.and_true, Bool.true_and, Bool.and_false, Bool.false_and, beq_self_eq_true (α := Nat), Option.some_beq_some, Option.none_beq_some, Option.some_beq_none, Bool.false_eq_true, List.all_nil, touch, touchB, Nat.sub_self, List.range'_zero, Nat.add_sub_cancel_left, List.range'_one, t1]
        · simp only [vop, val, argsT, upd_ap, Nat.reduceEqDiff, if_true, if_false, ite_true, ite_false, reduceIte, loadAt, loadA, AV.cells, AV.one, List.all_cons, List.all_nil, ofV, ofCell, plain, List.getElem?_cons_zero, List.getElem?_cons_succ, List.getElem?_toArray, Option.getD_some, Bool.not_true, Bool.not_false, Bool.false_eq_true, Bool.and_true, Bool.true_and, Bool.and_self, Nat.zero_add, Option.map_some, Option.bind_some, List.map_cons, List.map_nil, ev_add, ev_sub, ev_mul, ev_lss, ev_leq, ev_gtr, ev_geq, ev_eql, ev_neq, ev_seql, ev_sneq, ev_sleq, ev_slss, ev_not, ev_min, ev_max, asNat_nat, asNat_zero, asNat_one, asNat_two, asNat_three, vb_len, List.length_cons, List.length_nil, Nat.reduceAdd, Nat.reduceLeDiff, Nat.reduceMul, Int.reduceEq, Int.reduceLT, Int.reduceLE, Int.reduceNeg, Int.reduceAdd, Int.reduceSub, Nat.reduceLT, decide_true, decide_false, not_true_eq_false, not_false_eq_true, and_self, and_true, true_and, storeA, List.take_zero, List.drop_succ_cons, List.drop_zero, List.nil_append, List.append_nil, List.take_succ_cons, List.cons_append, cut_cons, cut_zero, cut_skip, tAt, hHide, hAt, upsAt, List.contains_cons, List.contains_nil, Nat.reduceBEq, Bool.or_true, Bool.true_or, Bool.or_false, Bool.false_or, Bool.or_self, Bool.and_true, Bool.true_and, Bool.and_false, Bool.false_and, beq_self_eq_true (α := Nat), Option.some_beq_some, Option.none_beq_some, Option.some_beq_none, Bool.false_eq_true, List.all_nil, touch, touchB, Nat.sub_self, List.range'_zero, Nat.add_sub_cancel_left, List.range'_one, t2]
        · simp only [vop, val, argsT, upd_ap, Nat.reduceEqDiff, if_true, if_false, ite_true, ite_false, reduceIte, loadAt, loadA, AV.cells, AV.one, List.all_cons, List.all_nil, ofV, ofCell, plain, List.getElem?_cons_zero, List.getElem?_cons_succ, List.getElem?_toArray, Option.getD_some, Bool.not_true, Bool.not_false, Bool.false_eq_true, Bool.and_true, Bool.true_and, Bool.and_self, Nat.zero_add, Option.map_some, Option.bind_some, List.map_cons, List.map_nil, ev_add, ev_sub, ev_mul, ev_lss, ev_leq, ev_gtr, ev_geq, ev_eql, ev_neq, ev_seql, ev_sneq, ev_sleq, ev_slss, ev_not, ev_min, ev_max, asNat_nat, asNat_zero, asNat_one, asNat_two, asNat_three, vb_len, List.length_cons, List.length_nil, Nat.reduceAdd, Nat.reduceLeDiff, Nat.reduceMul, Int.reduceEq, Int.reduceLT, Int.reduceLE, Int.reduceNeg, Int.reduceAdd, Int.reduceSub, Nat.reduceLT, decide_true, decide_false, not_true_eq_false, not_false_eq_true, and_self, and_true, true_and, storeA, List.take_zero, List.drop_succ_cons, List.drop_zero, List.nil_append, List.append_nil, List.take_succ_cons, List.cons_append, cut_cons, cut_zero, cut_skip, tAt, hHide, hAt, upsAt, List.contains_cons, List.contains_nil, Nat.reduceBEq, Bool.or_true, Bool.true_or, Bool.or_false, Bool.false_or, Bool.or_self, Bool.and_true, Bool.true_and, Bool.and_false, Bool.false_and, beq_self_eq_true (α := Nat), Option.some_beq_some, Option.none_beq_some, Option.some_beq_none, Bool.false_eq_true, List.all_nil, touch, touchB, Nat.sub_self, List.range'_zero, Nat.add_sub_cancel_left, List.range'_one, t5]
        · simp only [vop, val, argsT, upd_ap, Nat.reduceEqDiff, if_true, if_false, ite_true, ite_false, reduceIte, loadAt, loadA, AV.cells, AV.one, List.all_cons, List.all_nil, ofV, ofCell, plain, List.getElem?_cons_zero, List.getElem?_cons_succ, List.getElem?_toArray, Option.getD_some, Bool.not_true, Bool.not_false, Bool.false_eq_true, Bool.and_true, Bool.true_and, Bool.and_self, Nat.zero_add, Option.map_some, Option.bind_some, List.map_cons, List.map_nil, ev_add, ev_sub, ev_mul, ev_lss, ev_leq, ev_gtr, ev_geq, ev_eql, ev_neq, ev_seql, ev_sneq, ev_sleq, ev_slss, ev_not, ev_min, ev_max, asNat_nat, asNat_zero, asNat_one, asNat_two, asNat_three, vb_len, List.length_cons, List.length_nil, Nat.reduceAdd, Nat.reduceLeDiff, Nat.reduceMul, Int.reduceEq, Int.reduceLT, Int.reduceLE, Int.reduceNeg, Int.reduceAdd, Int.reduceSub, Nat.reduceLT, decide_true, decide_false, not_true_eq_false, not_false_eq_true, and_self, and_true, true_and, storeA, List.take_zero, List.drop_succ_cons, List.drop_zero, List.nil_append, List.append_nil, List.take_succ_cons, List.cons_append, cut_cons, cut_zero, cut_skip, tAt, hHide, hAt, upsAt, List.contains_cons, List.contains_nil, Nat.reduceBEq, Bool.or_true, Bool.true_or, Bool.or_false, Bool.false_or, Bool.or_self, Bool.and_true, Bool.true_and, Bool.and_false, Bool.false_and, beq_self_eq_true (α := Nat), Option.some_beq_some, Option.none_beq_some, Option.some_beq_none, Bool.false_eq_true, List.all_nil, touch, touchB, Nat.sub_self, List.range'_zero, Nat.add_sub_cancel_left, List.range'_one, t20]
        · simp [upd_ap]
        · simp only [vop, val, argsT, upd_ap, Nat.reduceEqDiff, if_true, if_false, ite_true, ite_false, reduceIte, loadAt, loadA, AV.cells, AV.one, List.all_cons, List.all_nil, ofV, ofCell, plain, List.getElem?_cons_zero, List.getElem?_cons_succ, List.getElem?_toArray, Option.getD_some, Bool.not_true, Bool.not_false, Bool.false_eq_true, Bool.and_true, Bool.true_and, Bool.and_self, Nat.zero_add, Option.map_some, Option.bind_some, List.map_cons, List.map_nil, ev_add, ev_sub, ev_mul, ev_lss, ev_leq, ev_gtr, ev_geq, ev_eql, ev_neq, ev_seql, ev_sneq, ev_sleq, ev_slss, ev_not, ev_min, ev_max, asNat_nat, asNat_zero, asNat_one, asNat_two, asNat_three, vb_len, List.length_cons, List.length_nil, Nat.reduceAdd, Nat.reduceLeDiff, Nat.reduceMul, Int.reduceEq, Int.reduceLT, Int.reduceLE, Int.reduceNeg, Int.reduceAdd, Int.reduceSub, Nat.reduceLT, decide_true, decide_false, not_true_eq_false, not_false_eq_true, and_self, and_true, true_and, storeA, List.take_zero, List.drop_succ_cons, List.drop_zero, List.nil_append, List.append_nil, List.take_succ_cons, List.cons_append, cut_cons, cut_zero, cut_skip, tAt, hHide, hAt, upsAt, List.contains_cons, List.contains_nil, Nat.reduceBEq, Bool.or_true, Bool.true_or, Bool.or_false, Bool.false_or, Bool.or_self, Bool.and_true, Bool.true_and, Bool.and_false, Bool.false_and, beq_self_eq_true (α := Nat), Option.some_beq_some, Option.none_beq_some, Option.some_beq_none, Bool.false_eq_true, List.all_nil, touch, touchB, Nat.sub_self, List.range'_zero, Nat.add_sub_cancel_left, List.range'_one, q0, xp0, yp0, xq0, yq0, xp1, yp1, xq1, yq1, xp2, yp2, xq2, yq2, xp3, yp3, xq3, yq3, xp4, yp4, xq4, yq4, xp5, yp5, xq5, yq5, xp6, yp6, xq6, yq6, z1, z2, z3, z4, z5, z6, z7, z8, z9, z10, z11, z12, z13, z14, z15, z16]
        · simp only [vop, val, argsT, upd_ap, Nat.reduceEqDiff, if_true, if_false, ite_true, ite_false, reduceIte, loadAt, loadA, AV.cells, AV.one, List.all_cons, List.all_nil, ofV, ofCell, plain, List.getElem?_cons_zero, List.getElem?_cons_succ, List.getElem?_toArray, Option.getD_some, Bool.not_true, Bool.not_false, Bool.false_eq_true, Bool.and_true, Bool.true_and, Bool.and_self, Nat.zero_add, Option.map_some, Option.bind_some, List.map_cons, List.map_nil, ev_add, ev_sub, ev_mul, ev_lss, ev_leq, ev_gtr, ev_geq, ev_eql, ev_neq, ev_seql, ev_sneq, ev_sleq, ev_slss, ev_not, ev_min, ev_max, asNat_nat, asNat_zero, asNat_one, asNat_two, asNat_three, vb_len, List.length_cons, List.length_nil, Nat.reduceAdd, Nat.reduceLeDiff, Nat.reduceMul, Int.reduceEq, Int.reduceLT, Int.reduceLE, Int.reduceNeg, Int.reduceAdd, Int.reduceSub, Nat.reduceLT, decide_true, decide_false, not_true_eq_false, not_false_eq_true, and_self, and_true, true_and, storeA, List.take_zero, List.drop_succ_cons, List.drop_zero, List.nil_append, List.append_nil, List.take_succ_cons, List.cons_append, cut_cons, cut_zero, cut_skip, tAt, hHide, hAt, upsAt, List.contains_cons, List.contains_nil, Nat.reduceBEq, Bool.or_true, Bool.true_or, Bool.or_false, Bool.false_or, Bool.or_self, Bool.and_true, Bool.true_and, Bool.and_false, Bool.false_and, beq_self_eq_true (α := Nat), Option.some_beq_some, Option.none_beq_some, Option.some_beq_none, Bool.false_eq_true, List.all_nil, touch, touchB, Nat.sub_self, List.range'_zero, Nat.add_sub_cancel_left, List.range'_one, r1, xp0, yp0, xq0, yq0, xp1, yp1, xq1, yq1, xp2, yp2, xq2, yq2, xp3, yp3, xq3, yq3, xp4, yp4, xq4, yq4, xp5, yp5, xq5, yq5, xp6, yp6, xq6, yq6, z1, z2, z3, z4, z5, z6, z7, z8, z9, z10, z11, z12, z13, z14, z15, z16]
        · simp only [vop, val, argsT, upd_ap, Nat.reduceEqDiff, if_true, if_false, ite_true, ite_false, reduceIte, loadAt, loadA, AV.cells, AV.one, List.all_cons, List.all_nil, ofV, ofCell, plain, List.getElem?_cons_zero, List.getElem?_cons_succ, List.getElem?_toArray, Option.getD_some, Bool.not_true, Bool.not_false, Bool.false_eq_true, Bool.and_true, Bool.true_and, Bool.and_self, Nat.zero_add, Option.map_some, Option.bind_some, List.map_cons, List.map_nil, ev_add, ev_sub, ev_mul, ev_lss, ev_leq, ev_gtr, ev_geq, ev_eql, ev_neq, ev_seql, ev_sneq, ev_sleq, ev_slss, ev_not, ev_min, ev_max, asNat_nat, asNat_zero, asNat_one, asNat_two, asNat_three, vb_len, List.length_cons, List.length_nil, Nat.reduceAdd, Nat.reduceLeDiff, Nat.reduceMul, Int.reduceEq, Int.reduceLT, Int.reduceLE, Int.reduceNeg, Int.reduceAdd, Int.reduceSub, Nat.reduceLT, decide_true, decide_false, not_true_eq_false, not_false_eq_true, and_self, and_true, true_and, storeA, List.take_zero, List.drop_succ_cons, List.drop_zero, List.nil_append, List.append_nil, List.take_succ_cons, List.cons_append, cut_cons, cut_zero, cut_skip, tAt, hHide, hAt, upsAt, List.contains_cons, List.contains_nil, Nat.reduceBEq, Bool.or_true, Bool.true_or, Bool.or_false, Bool.false_or, Bool.or_self, Bool.and_true, Bool.true_and, Bool.and_false, Bool.false_and, beq_self_eq_true (α := Nat), Option.some_beq_some, Option.none_beq_some, Option.some_beq_none, Bool.false_eq_true, List.all_nil, touch, touchB, Nat.sub_self, List.range'_zero, Nat.add_sub_cancel_left, List.range'_one, q2, xp0, yp0, xq0, yq0, xp1, yp1, xq1, yq1, xp2, yp2, xq2, yq2, xp3, yp3, xq3, yq3, xp4, yp4, xq4, yq4, xp5, yp5, xq5, yq5, xp6, yp6, xq6, yq6, z1, z2, z3, z4, z5, z6, z7, z8, z9, z10, z11, z12, z13, z14, z15, z16]
        · simp only [vop, val, argsT, upd_ap, Nat.reduceEqDiff, if_true, if_false, ite_true, ite_false, reduceIte, loadAt, loadA, AV.cells, AV.one, List.all_cons, List.all_nil, ofV, ofCell, plain, List.getElem?_cons_zero, List.getElem?_cons_succ, List.getElem?_toArray, Option.getD_some, Bool.not_true, Bool.not_false, Bool.false_eq_true, Bool.and_true, Bool.true_and, Bool.and_self, Nat.zero_add, Option.map_some, Option.bind_some, List.map_cons, List.map_nil, ev_add, ev_sub, ev_mul, ev_lss, ev_leq, ev_gtr, ev_geq, ev_eql, ev_neq, ev_seql, ev_sneq, ev_sleq, ev_slss, ev_not, ev_min, ev_max, asNat_nat, asNat_zero, asNat_one, asNat_two, asNat_three, vb_len, List.length_cons, List.length_nil, Nat.reduceAdd, Nat.reduceLeDiff, Nat.reduceMul, Int.reduceEq, Int.reduceLT, Int.reduceLE, Int.reduceNeg, Int.reduceAdd, Int.reduceSub, Nat.reduceLT, decide_true, decide_false, not_true_eq_false, not_false_eq_true, and_self, and_true, true_and, storeA, List.take_zero, List.drop_succ_cons, List.drop_zero, List.nil_append, List.append_nil, List.take_succ_cons, List.cons_append, cut_cons, cut_zero, cut_skip, tAt, hHide, hAt, upsAt, List.contains_cons, List.contains_nil, Nat.reduceBEq, Bool.or_true, Bool.true_or, Bool.or_false, Bool.false_or, Bool.or_self, Bool.and_true, Bool.true_and, Bool.and_false, Bool.false_and, beq_self_eq_true (α := Nat), Option.some_beq_some, Option.none_beq_some, Option.some_beq_none, Bool.false_eq_true, List.all_nil, touch, touchB, Nat.sub_self, List.range'_zero, Nat.add_sub_cancel_left, List.range'_one, xp0, yp0, xq0, yq0, xp1, yp1, xq1, yq1, xp2, yp2, xq2, yq2, xp3, yp3, xq3, yq3, xp4, yp4, xq4, yq4, xp5, yp5, xq5, yq5, xp6, yp6, xq6, yq6, z1, z2, z3, z4, z5, z6, z7, z8, z9, z10, z11, z12, z13, z14, z15, z16]
          simp only [List.map_append, List.map_cons, List.map_nil]
          rw [← encs_snoc]
          rfl
end Go.Proofs.Bv
namespace Go.Proofs.Bv
open Go
set_option maxHeartbeats 8000000 in
set_option maxRecDepth 100000 in
theorem pc16N (G : Nat → Option (List AV)) (ng : Bool) (cf : List Int) (ex : Int) (t : ByteArray) (l : List JV) (ks : List ByteArray)
    (hv : Fit (.mk 5 ng cf ex t l ks)) (hc : chk (.mk 5 ng cf ex t l ks) = 0) (hk : l.length ≤ 4096) :
    Pc (Cf G) 16 [.agg (enc (.mk 5 ng cf ex t l ks))] (.tup [.agg (enc (.mk 5 false [] 0 ⟨#[]⟩ ((List.range l.length).map numV) [])), .sc (.int .i64 0)]) := by
  have h1 := pc44 G (.mk 5 ng cf ex t l ks) hv
  rw [hc] at h1
  simp only [enc] at h1 ⊢
  refine Pc_of (Gf_enter (C := Cf G) Tryz.func16 rfl ok16 (Nat.le_of_ble_eq_true rfl) ?_)
  simp only [Tryz.f16, Option.getD_some]
  refine wC1 trivial (wa h1 trivial) ?_
  refine Gc_loop_inv (fun m st => ∃ k, k + m = l.length ∧ 3 ≤ st.n ∧ st.T 1 = .ptr 0 0 ∧ st.T 2 = .ptr 1 0 ∧ st.T 5 = .ptr 2 0 ∧ st.T 20 = .sc (.int .i64 l.length) ∧ st.T 21 = .sc (.int .i64 k) ∧
    st.h 0 = some (.cells [.sc (.int .i64 5), .sc (.bool ng), .psl (u32s cf) cf.length, .sc (.int .i64 ex), .sc (.string t), .psl (encs l) l.length, .psl (strs ks) ks.length] 0 false) ∧
    st.h 1 = some (.cells [.sc (.int .i64 0), .sc (.bool false), .nilS, .sc (.int .i64 0), .sc (.string ⟨#[]⟩), .nilS, .nilS] 0 false) ∧
    ∃ x, st.h 2 = some (.cells [.sc (.int .i64 5), .sc (.bool false), .nilS, .sc (.int .i64 0), .sc (.string ⟨#[]⟩), x, .nilS] 0 false) ∧ OwnV x st.h st.n 3 ((List.range k).map numV)) ?_ l.length _ ⟨0, Nat.zero_add _, Nat.le_refl _, rfl, rfl, rfl, rfl, rfl, rfl, rfl, .nilS, rfl, .inl ⟨rfl, rfl⟩⟩
  · rintro m ⟨T, h, n⟩ ⟨k, hkm, hn3, t1, t2, t5, t20, t21, q0, r1, x, q2, ho⟩
    simp only at hn3 t1 t2 t5 t20 t21 q0 r1 q2 ho
    cases m with
    | zero =>
      have e : k = l.length := by omega
      have hge : ¬ (k : Int) < (l.length : Int) := by omega
      rw [← e]
      rcases ho with ⟨rfl, hd0⟩ | ⟨b, rfl, hb, hb3, hbn⟩
      · have hd1 : k = 0 := by simpa using hd0
        refine wB1 (wa t1 (wa t2 (wa t5 (wa t20 (wa t21 (wa q0 (wa r1 (wa q2 hge)))))))) ?_
        rw [hd1]
        simp only [one1, frz_t, frz_a, mapF, frz_s, frz_n, Option.map_some, List.append_nil]
        rfl
      · have z1 : ¬ b = 1 := by omega
        have z2 : ¬ b = 2 := by omega
        have z3 : ¬ b = 0 := by omega
        refine wB1 (wa t1 (wa t2 (wa t5 (wa t20 (wa t21 (wa q0 (wa r1 (wa q2 (wa hge (wa hb (wa z1 (wa z2 z3)))))))))))) ?_
        simp only [one1, frz_t, frz_a, mapF, frz_s, frz_n, Option.map_some, List.append_nil]
        rw [frz_w (es := 7) (fz := false) (cs := encs ((List.range k).map numV)) (by simp only [upd_ap, if_neg z1]; exact hb) (by rw [encs_len]; rfl) (encs_pur _)]
        rfl
    | succ m =>
      have hlt : (k : Int) < (l.length : Int) := by omega
      have h2 := pc51 G k (by omega)
      simp only [numV, enc, encs, List.length_nil] at h2
      have w4 : IntKind.i64.wrap ((k : Int) + 1) = (k : Int) + 1 := i64 (by omega) (by omega)
      have xp0 : ¬ 0 = n := by omega
      have yp0 : (0 == n) = false := beq_false_of_ne (by omega)
      have xq0 : ¬ n = 0 := by omega
      have yq0 : (n == 0) = false := beq_false_of_ne (by omega)
      have xp1 : ¬ 1 = n := by omega
      have yp1 : (1 == n) = false := beq_false_of_ne (by omega)
      have xq1 : ¬ n = 1 := by omega
      have yq1 : (n == 1) = false := beq_false_of_ne (by omega)
      have xp2 : ¬ 2 = n := by omega
      have yp2 : (2 == n) = false := beq_false_of_ne (by omega)
      have xq2 : ¬ n = 2 := by omega
      have yq2 : (n == 2) = false := beq_false_of_ne (by omega)
      have xp3 : ¬ 0 = n + 1 := by omega
      have yp3 : (0 == n + 1) = false := beq_false_of_ne (by omega)
      have xq3 : ¬ n + 1 = 0 := by omega
      have yq3 : (n + 1 == 0) = false := beq_false_of_ne (by omega)
      have xp4 : ¬ 1 = n + 1 := by omega
      have yp4 : (1 == n + 1) = false := beq_false_of_ne (by omega)
      have xq4 : ¬ n + 1 = 1 := by omega
      have yq4 : (n + 1 == 1) = false := beq_false_of_ne (by omega)
      have xp5 : ¬ 2 = n + 1 := by omega
      have yp5 : (2 == n + 1) = false := beq_false_of_ne (by omega)
      have xq5 : ¬ n + 1 = 2 := by omega
      have yq5 : (n + 1 == 2) = false := beq_false_of_ne (by omega)
      have xp6 : ¬ n = n + 1 := by omega
      have yp6 : (n == n + 1) = false := beq_false_of_ne (by omega)
      have xq6 : ¬ n + 1 = n := by omega
      have yq6 : (n + 1 == n) = false := beq_false_of_ne (by omega)
      rcases ho with ⟨rfl, hd0⟩ | ⟨b, rfl, hb, hb3, hbn⟩
      · refine gC1 (wa t1 (wa t2 (wa t5 (wa t20 (wa t21 (wa q0 (wa q2 (wa hlt (wa w4 (wa xp0 (wa yp0 (wa xq0 (wa yq0 (wa xp1 (wa yp1 (wa xq1 (wa yq1 (wa xp2 (wa yp2 (wa xq2 (wa yq2 (wa xp3 (wa yp3 (wa xq3 (wa yq3 (wa xp4 (wa yp4 (wa xq4 (wa yq4 (wa xp5 (wa yp5 (wa xq5 (wa yq5 (wa xp6 (wa yp6 (wa xq6 yq6)))))))))))))))))))))))))))))))))))) (wa h2 trivial) ?_
        have hd1 : k = 0 := by simpa using hd0
        subst hd1
        refine ⟨m, by omega, 1, by omega, by simp only; omega, ?_, ?_, ?_, ?_, ?_, ?_, ?_, .osl (n + 1) 0 1, ?_, .inr ⟨n + 1, rfl, ?_, by omega, by simp only; omega⟩⟩
        · simp only [vop, val, argsT, upd_ap, Nat.reduceEqDiff, if_true, if_false, ite_true, ite_false, reduceIte, loadAt, loadA, AV.cells, AV.one, List.all_cons, List.all_nil, ofV, ofCell, plain, List.getElem?_cons_zero, List.getElem?_cons_succ, List.getElem?_toArray, Option.getD_some, Bool.not_true, Bool.not_false, Bool.false_eq_true, Bool.and_true, Bool.true_and, Bool.and_self, Nat.zero_add, Option.map_some, Option.bind_some, List.map_cons, List.map_nil, ev_add, ev_sub, ev_mul, ev_lss, ev_leq, ev_gtr, ev_geq, ev_eql, ev_neq, ev_seql, ev_sneq, ev_sleq, ev_slss, ev_not, ev_min, ev_max, asNat_nat, asNat_zero, asNat_one, asNat_two, asNat_three, vb_len, List.length_cons, List.length_nil, Nat.reduceAdd, Nat.reduceLeDiff, Nat.reduceMul, Int.reduceEq, Int.reduceLT, Int.reduceLE, Int.reduceNeg, Int.reduceAdd, Int.reduceSub, Nat.reduceLT, decide_true, decide_false, not_true_eq_false, not_false_eq_true, and_self, and_true, true_and, storeA, List.take_zero, List.drop_succ_cons, List.drop_zero, List.nil_append, List.append_nil, List.take_succ_cons, List.cons_append, cut_cons, cut_zero, cut_skip, tAt, hHide, hAt, upsAt, List.contains_cons, List.contains_nil, Nat.reduceBEq, Bool.or_true, Bool.true_or, Bool.or_false, Bool.false_or, Bool.or_self, Bool.and_true, Bool.true_and, Bool.and_false, Bool.false_and, beq_self_eq_true (α := Nat), Option.some_beq_some, Option.none_beq_some, Option.some_beq_none, Bool.false_eq_true, List.all_nil, touch, touchB, Nat.sub_self, List.range'_zero, Nat.add_sub_cancel_left, List.range'_one, t1]
        · simp only [vop, val, argsT, upd_ap, Nat.reduceEqDiff, if_true, if_false, ite_true, ite_false, reduceIte, loadAt, loadA, AV.cells, AV.one, List.all_cons, List.all_nil, ofV, ofCell, plain, List.getElem?_cons_zero, List.getElem?_cons_succ, List.getElem?_toArray, Option.getD_some, Bool.not_true, Bool.not_false, Bool.false_eq_true, Bool.and_true, Bool.true_and, Bool.and_self, Nat.zero_add, Option.map_some, Option.bind_some, List.map_cons, List.map_nil, ev_add, ev_sub, ev_mul, ev_lss, ev_leq, ev_gtr, ev_geq, ev_eql, ev_neq, ev_seql, ev_sneq, ev_sleq, ev_slss, ev_not, ev_min, ev_max, asNat_nat, asNat_zero, asNat_one, asNat_two, asNat_three, vb_len, List.length_cons, List.length_nil, Nat.reduceAdd, Nat.reduceLeDiff, Nat.reduceMul, Int.reduceEq, Int.reduceLT, Int.reduceLE, Int.reduceNeg, Int.reduceAdd, Int.reduceSub, Nat.reduceLT, decide_true, decide_false, not_true_eq_false, not_false_eq_true, and_self, and_true, true_and, storeA, List.take_zero, List.drop_succ_cons, List.drop_zero, List.nil_append, List.append_nil, List.take_succ_cons, List.cons_append, cut_cons, cut_zero, cut_skip, tAt, hHide, hAt, upsAt, List.contains_cons, List.contains_nil, Nat.reduceBEq, Bool.or_true, Bool.true_or, Bool.or_false, Bool.false_or, Bool.or_self, Bool.and_true, Bool.true_and, Bool.and_false, Bool.false_and, beq_self_eq_true (α := Nat), Option.some_beq_some, Option.none_beq_some, Option.some_beq_none, Bool.false_eq_true, List.all_nil, touch, touchB, Nat.sub_self, List.range'_zero, Nat.add_sub_cancel_left, List.range'_one, t2]
        · simp only [vop, val, argsT, upd_ap, Nat.reduceEqDiff, if_true, if_false, ite_true, ite_false, reduceIte, loadAt, loadA, AV.cells, AV.one, List.all_cons, List.all_nil, ofV, ofCell, plain, List.getElem?_cons_zero, List.getElem?_cons_succ, List.getElem?_toArray, Option.getD_some, Bool.not_true, Bool.not_false, Bool.false_eq_true, Bool.and_true, Bool.true_and, Bool.and_self, Nat.zero_add, Option.map_some, Option.bind_some, List.map_cons, List.map_nil, ev_add, ev_sub, ev_mul, ev_lss, ev_leq, ev_gtr, ev_geq, ev_eql, ev_neq, ev_seql, ev_sneq, ev_sleq, ev_slss, ev_not, ev_min, ev_max, asNat_nat, asNat_zero, asNat_one, asNat_two, asNat_three, vb_len, List.length_cons, List.length_nil, Nat.reduceAdd, Nat.reduceLeDiff, Nat.reduceMul, Int.reduceEq, Int.reduceLT, Int.reduceLE, Int.reduceNeg, Int.reduceAdd, Int.reduceSub, Nat.reduceLT, decide_true, decide_false, not_true_eq_false, not_false_eq_true, and_self, and_true, true_and, storeA, List.take_zero, List.drop_succ_cons, List.drop_zero, List.nil_append, List.append_nil, List.take_succ_cons, List.cons_append, cut_cons, cut_zero, cut_skip, tAt, hHide, hAt, upsAt, List.contains_cons, List.contains_nil, Nat.reduceBEq, Bool.or_true, Bool.true_or, Bool.or_false, Bool.false_or, Bool.or_self, Bool.and_true, Bool.true_and, Bool.and_false, Bool.false_and, beq_self_eq_true (α := Nat), Option.some_beq_some, Option.none_beq_some, Option.some_beq_none, Bool.false_eq_true, List.all_nil, touch, touchB, Nat.sub_self, List.range'_zero, Nat.add_sub_cancel_left, List.range'_one, t5]
        · simp only [vop, val, argsT, upd_ap, Nat.reduceEqDiff, if_true, if_false, ite_true, ite_false, reduceIte, loadAt, loadA, AV.cells, AV.one, List.all_cons, List.all_nil, ofV, ofCell, plain, List.getElem?_cons_zero, List.getElem?_cons_succ, List.getElem?_toArray, Option.getD_some, Bool.not_true, Bool.not_false, Bool.false_eq_true, Bool.and_true, Bool.true_and, Bool.and_self, Nat.zero_add, Option.map_some, Option.bind_some, List.map_cons, List.map_nil, ev_add, ev_sub, ev_mul, ev_lss, ev_leq, ev_gtr, ev_geq, ev_eql, ev_neq, ev_seql, ev_sneq, ev_sleq, ev_slss, ev_not, ev_min, ev_max, asNat_nat, asNat_zero, asNat_one, asNat_two, asNat_three, vb_len, List.length_cons, List.length_nil, Nat.reduceAdd, Nat.reduceLeDiff, Nat.reduceMul, Int.reduceEq, Int.reduceLT, Int.reduceLE, Int.reduceNeg, Int.reduceAdd, Int.reduceSub, Nat.reduceLT, decide_true, decide_false, not_true_eq_false, not_false_eq_true, and_self, and_true, true_and, storeA, List.take_zero, List.drop_succ_cons, List.drop_zero, List.nil_append, List.append_nil, List.take_succ_cons, List.cons_append, cut_cons, cut_zero, cut_skip, tAt, hHide, hAt, upsAt, List.contains_cons, List.contains_nil, Nat.reduceBEq, Bool.or_true, Bool.true_or, Bool.or_false, Bool.false_or, Bool.or_self, Bool.and_true, Bool.true_and, Bool.and_false, Bool.false_and, beq_self_eq_true (α := Nat), Option.some_beq_some, Option.none_beq_some, Option.some_beq_none, Bool.false_eq_true, List.all_nil, touch, touchB, Nat.sub_self, List.range'_zero, Nat.add_sub_cancel_left, List.range'_one, t20]
        · simp [upd_ap]
        · simp only [vop, val, argsT, upd_ap, Nat.reduceEqDiff, if_true, if_false, ite_true, ite_false, reduceIte, loadAt, loadA, AV.cells, AV.one, List.all_cons, List.all_nil, ofV, ofCell, plain, List.getElem?_cons_zero, List.getElem?_cons_succ, List.getElem?_toArray, Option.getD_some, Bool.not_true, Bool.not_false, Bool.false_eq_true, Bool.and_true, Bool.true_and, Bool.and_self, Nat.zero_add, Option.map_some, Option.bind_some, List.map_cons, List.map_nil, ev_add, ev_sub, ev_mul, ev_lss, ev_leq, ev_gtr, ev_geq, ev_eql, ev_neq, ev_seql, ev_sneq, ev_sleq, ev_slss, ev_not, ev_min, ev_max, asNat_nat, asNat_zero, asNat_one, asNat_two, asNat_three, vb_len, List.length_cons, List.length_nil, Nat.reduceAdd, Nat.reduceLeDiff, Nat.reduceMul, Int.reduceEq, Int.reduceLT, Int.reduceLE, Int.reduceNeg, Int.reduceAdd, Int.reduceSub, Nat.reduceLT, decide_true, decide_false, not_true_eq_false, not_false_eq_true, and_self, and_true, true_and, storeA, List.take_zero, List.drop_succ_cons, List.drop_zero, List.nil_append, List.append_nil, List.take_succ_cons, List.cons_append, cut_cons, cut_zero, cut_skip, tAt, hHide, hAt, upsAt, List.contains_cons, List.contains_nil, Nat.reduceBEq, Bool.or_true, Bool.true_or, Bool.or_false, Bool.false_or, Bool.or_self, Bool.and_true, Bool.true_and, Bool.and_false, Bool.false_and, beq_self_eq_true (α := Nat), Option.some_beq_some, Option.none_beq_some, Option.some_beq_none, Bool.false_eq_true, List.all_nil, touch, touchB, Nat.sub_self, List.range'_zero, Nat.add_sub_cancel_left, List.range'_one, q0, xp0, yp0, xq0, yq0, xp1, yp1, xq1, yq1, xp2, yp2, xq2, yq2, xp3, yp3, xq3, yq3, xp4, yp4, xq4, yq4, xp5, yp5, xq5, yq5, xp6, yp6, xq6, yq6]
        · simp only [vop, val, argsT, upd_ap, Nat.reduceEqDiff, if_true, if_false, ite_true, ite_false, reduceIte, loadAt, loadA, AV.cells, AV.one, List.all_cons, List.all_nil, ofV, ofCell, plain, List.getElem?_cons_zero, List.getElem?_cons_succ, List.getElem?_toArray, Option.getD_some, Bool.not_true, Bool.not_false, Bool.false_eq_true, Bool.and_true, Bool.true_and, Bool.and_self, Nat.zero_add, Option.map_some, Option.bind_some, List.map_cons, List.map_nil, ev_add, ev_sub, ev_mul, ev_lss, ev_leq, ev_gtr, ev_geq, ev_eql, ev_neq, ev_seql, ev_sneq, ev_sleq, ev_slss, ev_not, ev_min, ev_max, asNat_nat, asNat_zero, asNat_one, asNat_two, asNat_three, vb_len, List.length_cons, List.length_nil, Nat.reduceAdd, Nat.reduceLeDiff, Nat.reduceMul, Int.reduceEq, Int.reduceLT, Int.reduceLE, Int.reduceNeg, Int.reduceAdd, Int.reduceSub, Nat.reduceLT, decide_true, decide_false, not_true_eq_false, not_false_eq_true, and_self, and_true, true_and, storeA, List.take_zero, List.drop_succ_cons, List.drop_zero, List.nil_append, List.append_nil, List.take_succ_cons, List.cons_append, cut_cons, cut_zero, cut_skip, tAt, hHide, hAt, upsAt, List.contains_cons, List.contains_nil, Nat.reduceBEq, Bool.or_true, Bool.true_or, Bool.or_false, Bool.false_or, Bool.or_self, Bool.and_true, Bool.true_and, Bool.and_false, Bool.false_and, beq_self_eq_true (α := Nat), Option.some_beq_some, Option.none_beq_some, Option.some_beq_none, Bool.false_eq_true, List.all_nil, touch, touchB, Nat.sub_self, List.range'_zero, Nat.add_sub_cancel_left, List.range'_one, r1, xp0, yp0, xq0, yq0, xp1, yp1, xq1, yq1, xp2, yp2, xq2, yq2, xp3, yp3, xq3, yq3, xp4, yp4, xq4, yq4, xp5, yp5, xq5, yq5, xp6, yp6, xq6, yq6]
        · simp only [vop, val, argsT, upd_ap, Nat.reduceEqDiff, if_true, if_false, ite_true, ite_false, reduceIte, loadAt, loadA, AV.cells, AV.one, List.all_cons, List.all_nil, ofV, ofCell, plain, List.getElem?_cons_zero, List.getElem?_cons_succ, List.getElem?_toArray, Option.getD_some, Bool.not_true, Bool.not_false, Bool.false_eq_true, Bool.and_true, Bool.true_and, Bool.and_self, Nat.zero_add, Option.map_some, Option.bind_some, List.map_cons, List.map_nil, ev_add, ev_sub, ev_mul, ev_lss, ev_leq, ev_gtr, ev_geq, ev_eql, ev_neq, ev_seql, ev_sneq, ev_sleq, ev_slss, ev_not, ev_min, ev_max, asNat_nat, asNat_zero, asNat_one, asNat_two, asNat_three, vb_len, List.length_cons, List.length_nil, Nat.reduceAdd, Nat.reduceLeDiff, Nat.reduceMul, Int.reduceEq, Int.reduceLT, Int.reduceLE, Int.reduceNeg, Int.reduceAdd, Int.reduceSub, Nat.reduceLT, decide_true, decide_false, not_true_eq_false, not_false_eq_true, and_self, and_true, true_and, storeA, List.take_zero, List.drop_succ_cons, List.drop_zero, List.nil_append, List.append_nil, List.take_succ_cons, List.cons_append, cut_cons, cut_zero, cut_skip, tAt, hHide, hAt, upsAt, List.contains_cons, List.contains_nil, Nat.reduceBEq, Bool.or_true, Bool.true_or, Bool.or_false, Bool.false_or, Bool.or_self, Bool.and_true, Bool.true_and, Bool.and_false, Bool.false_and, beq_self_eq_true (α := Nat), Option.some_beq_some, Option.none_beq_some, Option.some_beq_none, Bool.false_eq_true, List.all_nil, touch, touchB, Nat.sub_self, List.range'_zero, Nat.add_sub_cancel_left, List.range'_one, q2, xp0, yp0, xq0, yq0, xp1, yp1, xq1, yq1, xp2, yp2, xq2, yq2, xp3, yp3, xq3, yq3, xp4, yp4, xq4, yq4, xp5, yp5, xq5, yq5, xp6, yp6, xq6, yq6]
        · simp only [vop, val, argsT, upd_ap, Nat.reduceEqDiff, if_true, if_false, ite_true, ite_false, reduceIte, loadAt, loadA, AV.cells, AV.one, List.all_cons, List.all_nil, ofV, ofCell, plain, List.getElem?_cons_zero, List.getElem?_cons_succ, List.getElem?_toArray, Option.getD_some, Bool.not_true, Bool.not_false, Bool.false_eq_true, Bool.and_true, Bool.true_and, Bool.and_self, Nat.zero_add, Option.map_some, Option.bind_some, List.map_cons, List.map_nil, ev_add, ev_sub, ev_mul, ev_lss, ev_leq, ev_gtr, ev_geq, ev_eql, ev_neq, ev_seql, ev_sneq, ev_sleq, ev_slss, ev_not, ev_min, ev_max, asNat_nat, asNat_zero, asNat_one, asNat_two, asNat_three, vb_len, List.length_cons, List.length_nil, Nat.reduceAdd, Nat.reduceLeDiff, Nat.reduceMul, Int.reduceEq, Int.reduceLT, Int.reduceLE, Int.reduceNeg, Int.reduceAdd, Int.reduceSub, Nat.reduceLT, decide_true, decide_false, not_true_eq_false, not_false_eq_true, and_self, and_true, true_and, storeA, List.take_zero, List.drop_succ_cons, List.drop_zero, List.nil_append, List.append_nil, List.take_succ_cons, List.cons_append, cut_cons, cut_zero, cut_skip, tAt, hHide, hAt, upsAt, List.contains_cons, List.contains_nil, Nat.reduceBEq, Bool.or_true, Bool.true_or, Bool.or_false, Bool.false_or, Bool.or_self, Bool.and_true, Bool.true_and, Bool.and_false, Bool.false_and, beq_self_eq_true (α := Nat), Option.some_beq_some, Option.none_beq_some, Option.some_beq_none, Bool.false_eq_true, List.all_nil, touch, touchB, Nat.sub_self, List.range'_zero, Nat.add_sub_cancel_left, List.range'_one, xp0, yp0, xq0, yq0, xp1, yp1, xq1, yq1, xp2, yp2, xq2, yq2, xp3, yp3, xq3, yq3, xp4, yp4, xq4, yq4, xp5, yp5, xq5, yq5, xp6, yp6, xq6, yq6, encs, enc, List.map_cons, List.map_nil, List.range_one, numV, List.append_nil, List.length_nil]
      · have z1 : ¬ b = n := by omega
        have z2 : (b == n) = false := beq_false_of_ne (by omega)
        have z3 : ¬ n = b := by omega
        have z4 : (n == b) = false := beq_false_of_ne (by omega)
        have z5 : ¬ b = n + 1 := by omega
        have z6 : (b == n + 1) = false := beq_false_of_ne (by omega)
        have z7 : ¬ n + 1 = b := by omega
        have z8 : (n + 1 == b) = false := beq_false_of_ne (by omega)
        have z9 : ¬ 0 = b := by omega
        have z10 : ¬ 1 = b := by omega
        have z11 : ¬ 2 = b := by omega
        have z12 : ¬ b = 0 := by omega
        have z13 : ¬ b = 1 := by omega
        have z14 : ¬ b = 2 := by omega
        have z15 : (b == 2) = false := beq_false_of_ne (by omega)
        have z16 : (2 == b) = false := beq_false_of_ne (by omega)
        obtain ⟨E, hE⟩ : ∃ E, E = (List.range k).map numV := ⟨_, rfl⟩
        have hEl : E.length = k := by rw [hE]; simp
        rw [← hE] at hb q2
        rw [hEl] at q2
        have g1 : (k + 1) * 112 ≤ 140737488355328 := by omega
        have g2 : k + 1 ≤ 140737488355328 := by omega
        have g3 : k * 7 ≤ (encs E).length := by rw [encs_len, hEl]; exact Nat.le_refl _
        have g4 : cut (encs E) 0 (k * 7) = encs E := by rw [cut, List.drop_zero, List.take_of_length_le (by rw [encs_len, hEl]; exact Nat.le_refl _)]
        refine gC1 (wa t1 (wa t2 (wa t5 (wa t20 (wa t21 (wa q0 (wa q2 (wa hb (wa hlt (wa w4 (wa xp0 (wa yp0 (wa xq0 (wa yq0 (wa xp1 (wa yp1 (wa xq1 (wa yq1 (wa xp2 (wa yp2 (wa xq2 (wa yq2 (wa xp3 (wa yp3 (wa xq3 (wa yq3 (wa xp4 (wa yp4 (wa xq4 (wa yq4 (wa xp5 (wa yp5 (wa xq5 (wa yq5 (wa xp6 (wa yp6 (wa xq6 (wa yq6 (wa z1 (wa z2 (wa z3 (wa z4 (wa z5 (wa z6 (wa z7 (wa z8 (wa z9 (wa z10 (wa z11 (wa z12 (wa z13 (wa z14 (wa z15 (wa z16 (wa g1 (wa g2 (wa g3 g4))))))))))))))))))))))))))))))))))))))))))))))))))))))))) (wa h2 trivial) ?_
        refine ⟨m, by omega, k + 1, by omega, by simp only; omega, ?_, ?_, ?_, ?_, ?_, ?_, ?_, .osl (n + 1) 0 (k + 1), ?_, .inr ⟨n + 1, by simp, ?_, by omega, by simp only; omega⟩⟩
        · simp only [vop, val, argsT, upd_ap, Nat.reduceEqDiff, if_true, if_false, ite_true, ite_false, reduceIte, loadAt, loadA, AV.cells, AV.one, List.all_cons, List.all_nil, ofV, ofCell, plain, List.getElem?_cons_zero, List.getElem?_cons_succ, List.getElem?_toArray, Option.getD_some, Bool.not_true, Bool.not_false, Bool.false_eq_true, Bool.and_true, Bool.true_and, Bool.and_self, Nat.zero_add, Option.map_some, Option.bind_some, List.map_cons, List.map_nil, ev_add, ev_sub, ev_mul, ev_lss, ev_leq, ev_gtr, ev_geq, ev_eql, ev_neq, ev_seql, ev_sneq, ev_sleq, ev_slss, ev_not, ev_min, ev_max, asNat_nat, asNat_zero, asNat_one, asNat_two, asNat_three, vb_len, List.length_cons, List.length_nil, Nat.reduceAdd, Nat.reduceLeDiff, Nat.reduceMul, Int.reduceEq, Int.reduceLT, Int.reduceLE, Int.reduceNeg, Int.reduceAdd, Int.reduceSub, Nat.reduceLT, decide_true, decide_false, not_true_eq_false, not_false_eq_true, and_self, and_true, true_and, storeA, List.take_zero, List.drop_succ_cons, List.drop_zero, List.nil_append, List.append_nil, List.take_succ_cons, List.cons_append, cut_cons, cut_zero, cut_skip, tAt, hHide, hAt, upsAt, List.contains_cons, List.contains_nil, Nat.reduceBEq, Bool.or_true, Bool.true_or, Bool.or_false, Bool.false_or, Bool.or_self, Bool.and_true, Bool.true_and, Bool.and_false, Bool.false_and, beq_self_eq_true (α := Nat), Option.some_beq_some, Option.none_beq_some, Option.some_beq_none, Bool.false_eq_true, List.all_nil, touch, touchB, Nat.sub_self, List.range'_zero, Nat.add_sub_cancel_left, List.range'_one, t1]
        · simp only [vop, val, argsT, upd_ap, Nat.reduceEqDiff, if_true, if_false, ite_true, ite_false, reduceIte, loadAt, loadA, AV.cells, AV.one, List.all_cons, List.all_nil, ofV, ofCell, plain, List.getElem?_cons_zero, List.getElem?_cons_succ, List.getElem?_toArray, Option.getD_some, Bool.not_true, Bool.not_false, Bool.false_eq_true, Bool.and_true, Bool.true_and, Bool.and_self, Nat.zero_add, Option.map_some, Option.bind_some, List.map_cons, List.map_nil, ev_add, ev_sub, ev_mul, ev_lss, ev_leq, ev_gtr, ev_geq, ev_eql, ev_neq, ev_seql, ev_sneq, ev_sleq, ev_slss, ev_not, ev_min, ev_max, asNat_nat, asNat_zero, asNat_one, asNat_two, asNat_three, vb_len, List.length_cons, List.length_nil, Nat.reduceAdd, Nat.reduceLeDiff, Nat.reduceMul, Int.reduceEq, Int.reduceLT, Int.reduceLE, Int.reduceNeg, Int.reduceAdd, Int.reduceSub, Nat.reduceLT, decide_true, decide_false, not_true_eq_false, not_false_eq_true, and_self, and_true, true_and, storeA, List.take_zero, List.drop_succ_cons, List.drop_zero, List.nil_append, List.append_nil, List.take_succ_cons, List.cons_append, cut_cons, cut_zero, cut_skip, tAt, hHide, hAt, upsAt, List.contains_cons, List.contains_nil, Nat.reduceBEq, Bool.or_true, Bool.true_or, Bool.or_false, Bool.false_or, Bool.or_self, Bool.and_true, Bool.true_and, Bool.and_false, Bool.false_and, beq_self_eq_true (α := Nat), Option.some_beq_some, Option.none_beq_some, Option.some_beq_none, Bool.false_eq_true, List.all_nil, touch, touchB, Nat.sub_self, List.range'_zero, Nat.add_sub_cancel_left, List.range'_one, t2]
        · simp only [vop, val, argsT, upd_ap, Nat.reduceEqDiff, if_true, if_false, ite_true, ite_false, reduceIte, loadAt, loadA, AV.cells, AV.one, List.all_cons, List.all_nil, ofV, ofCell, plain, List.getElem?_cons_zero, List.getElem?_cons_succ, List.getElem?_toArray, Option.getD_some, Bool.not_true, Bool.not_false, Bool.false_eq_true, Bool.and_true, Bool.true_and, Bool.and_self, Nat.zero_add, Option.map_some, Option.bind_some, List.map_cons, List.map_nil, ev_add, ev_sub, ev_mul, ev_lss, ev_leq, ev_gtr, ev_geq, ev_eql, ev_neq, ev_seql, ev_sneq, ev_sleq, ev_slss, ev_not, ev_min, ev_max, asNat_nat, asNat_zero, asNat_one, asNat_two, asNat_three, vb_len, List.length_cons, List.length_nil, Nat.reduceAdd, Nat.reduceLeDiff, Nat.reduceMul, Int.reduceEq, Int.reduceLT, Int.reduceLE, Int.reduceNeg, Int.reduceAdd, Int.reduceSub, Nat.reduceLT, decide_true, decide_false, not_true_eq_false, not_false_eq_true, and_self, and_true, true_and, storeA, List.take_zero, List.drop_succ_cons, List.drop_zero, List.nil_append, List.append_nil, List.take_succ_cons, List.cons_append, cut_cons, cut_zero, cut_skip, tAt, hHide, hAt, upsAt, List.contains_cons, List.contains_nil, Nat.reduceBEq, Bool.or_true, Bool.true_or, Bool.or_false, Bool.false_or, Bool.or_self, Bool.and_true, Bool.true_and, Bool.and_false, Bool.false_and, beq_self_eq_true (α := Nat), Option.some_beq_some, Option.none_beq_some, Option.some_beq_none, Bool.false_eq_true, List.all_nil, touch, touchB, Nat.sub_self, List.range'_zero, Nat.add_sub_cancel_left, List.range'_one, t5]
        · simp only [vop, val, argsT, upd_ap, Nat.reduceEqDiff, if_true, if_false, ite_true, ite_false, reduceIte, loadAt, loadA, AV.cells, AV.one, List.all_cons, List.all_nil, ofV, ofCell, plain, List.getElem?_cons_zero, List.getElem?_cons_succ, List.getElem?_toArray, Option.getD_some, Bool.not_true, Bool.not_false, Bool.false_eq_true, Bool.and_true, Bool.true_and, Bool.and_self, Nat.zero_add, Option.map_some, Option.bind_some, List.map_cons, List.map_nil, ev_add, ev_sub, ev_mul, ev_lss, ev_leq, ev_gtr, ev_geq, ev_eql, ev_neq, ev_seql, ev_sneq, ev_sleq, ev_slss, ev_not, ev_min, ev_max, asNat_nat, asNat_zero, asNat_one, asNat_two, asNat_three, vb_len, List.length_cons, List.length_nil, Nat.reduceAdd, Nat.reduceLeDiff, Nat.reduceMul, Int.reduceEq, Int.reduceLT, Int.reduceLE, Int.reduceNeg, Int.reduceAdd, Int.reduceSub, Nat.reduceLT, decide_true, decide_false, not_true_eq_false, not_false_eq_true, and_self, and_true, true_and, storeA, List.take_zero, List.drop_succ_cons, List.drop_zero, List.nil_append, List.append_nil, List.take_succ_cons, List.cons_append, cut_cons, cut_zero, cut_skip, tAt, hHide, hAt, upsAt, List.contains_cons, List.contains_nil, Nat.reduceBEq, Bool.or_true, Bool.true_or, Bool.or_false, Bool.false_or, Bool.or_self, Bool.and_true, Bool.true_and, Bool.and_false, Bool.false_and, beq_self_eq_true (α := Nat), Option.some_beq_some, Option.none_beq_some, Option.some_beq_none, Bool.false_eq_true, List.all_nil, touch, touchB, Nat.sub_self, List.range'_zero, Nat.add_sub_cancel_left, List.range'_one, t20]
        · simp [upd_ap]
        · simp only [vop, val, argsT, upd_ap, Nat.reduceEqDiff, if_true, if_false, ite_true, ite_false, reduceIte, loadAt, loadA, AV.cells, AV.one, List.all_cons, List.all_nil, ofV, ofCell, plain, List.getElem?_cons_zero, List.getElem?_cons_succ, List.getElem?_toArray, Option.getD_some, Bool.not_true, Bool.not_false, Bool.false_eq_true, Bool.and_true, Bool.true_and, Bool.and_self, Nat.zero_add, Option.map_some, Option.bind_some, List.map_cons, List.map_nil, ev_add, ev_sub, ev_mul, ev_lss, ev_leq, ev_gtr, ev_geq, ev_eql, ev_neq, ev_seql, ev_sneq, ev_sleq, ev_slss, ev_not, ev_min, ev_max, asNat_nat, asNat_zero, asNat_one, asNat_two, asNat_three, vb_len, List.length_cons, List.length_nil, Nat.reduceAdd, Nat.reduceLeDiff, Nat.reduceMul, Int.reduceEq, Int.reduceLT, Int.reduceLE, Int.reduceNeg, Int.reduceAdd, Int.reduceSub, Nat.reduceLT, decide_true, decide_false, not_true_eq_false, not_false_eq_true, and_self, and_true, true_and, storeA, List.take_zero, List.drop_succ_cons, List.drop_zero, List.nil_append, List.append_nil, List.take_succ_cons, List.cons_append, cut_cons, cut_zero, cut_skip, tAt, hHide, hAt, upsAt, List.contains_cons, List.contains_nil, Nat.reduceBEq, Bool.or_true, Bool.true_or, Bool.or_false, Bool.false_or, Bool.or_self, Bool.and_true, Bool.true_and, Bool.and_false, Bool.false_and, beq_self_eq_true (α := Nat), Option.some_beq_some, Option.none_beq_some, Option.some_beq_none, Bool.false_eq_true, List.all_nil, touch, touchB, Nat.sub_self, List.range'_zero, Nat.add_sub_cancel_left, List.range'_one, q0, xp0, yp0, xq0, yq0, xp1, yp1, xq1, yq1, xp2, yp2, xq2, yq2, xp3, yp3, xq3, yq3, xp4, yp4, xq4, yq4, xp5, yp5, xq5, yq5, xp6, yp6, xq6, yq6, z1, z2, z3, z4, z5, z6, z7, z8, z9, z10, z11, z12, z13, z14, z15, z16]
        · simp only [vop, val, argsT, upd_ap, Nat.reduceEqDiff, if_true, if_false, ite_true, ite_false, reduceIte, loadAt, loadA, AV.cells, AV.one, List.all_cons, List.all_nil, ofV, ofCell, plain, List.getElem?_cons_zero, List.getElem?_cons_succ, List.getElem?_toArray, Option.getD_some, Bool.not_true, Bool.not_false, Bool.false_eq_true, Bool.and_true, Bool.true_and, Bool.and_self, Nat.zero_add, Option.map_some, Option.bind_some, List.map_cons, List.map_nil, ev_add, ev_sub, ev_mul, ev_lss, ev_leq, ev_gtr, ev_geq, ev_eql, ev_neq, ev_seql, ev_sneq, ev_sleq, ev_slss, ev_not, ev_min, ev_max, asNat_nat, asNat_zero, asNat_one, asNat_two, asNat_three, vb_len, List.length_cons, List.length_nil, Nat.reduceAdd, Nat.reduceLeDiff, Nat.reduceMul, Int.reduceEq, Int.reduceLT, Int.reduceLE, Int.reduceNeg, Int.reduceAdd, Int.reduceSub, Nat.reduceLT, decide_true, decide_false, not_true_eq_false, not_false_eq_true, and_self, and_true, true_and, storeA, List.take_zero, List.drop_succ_cons, List.drop_zero, List.nil_append, List.append_nil, List.take_succ_cons, List.cons_append, cut_cons, cut_zero, cut_skip, tAt, hHide, hAt, upsAt, List.contains_cons, List.contains_nil, Nat.reduceBEq, Bool.or_true, Bool.true_or, Bool.or_false, Bool.false_or, Bool.or_self, Bool.and_true, Bool.true_and, Bool.and_false, Bool.false_and, beq_self_eq_true (α := Nat), Option.some_beq_some, Option.none_beq_some, Option.some_beq_none, Bool.false_eq_true, List.all_nil, touch, touchB, Nat.sub_self, List.range'_zero, Nat.add_sub_cancel_left, List.range'_one, r1, xp0, yp0, xq0, yq0, xp1, yp1, xq1, yq1, xp2, yp2, xq2, yq2, xp3, yp3, xq3, yq3, xp4, yp4, xq4, yq4, xp5, yp5, xq5, yq5, xp6, yp6, xq6, yq6, z1, z2, z3, z4, z5, z6, z7, z8, z9, z10, z11, z12, z13, z14, z15, z16]
        · simp only [vop, val, argsT, upd_ap, Nat.reduceEqDiff, if_true, if_false, ite_true, ite_false, reduceIte, loadAt, loadA, AV.cells, AV.one, List.all_cons, List.all_nil, ofV, ofCell, plain, List.getElem?_cons_zero, List.getElem?_cons_succ, List.getElem?_toArray, Option.getD_some, Bool.not_true, Bool.not_false, Bool.false_eq_true, Bool.and_true, Bool.true_and, Bool.and_self, Nat.zero_add, Option.map_some, Option.bind_some, List.map_cons, List.map_nil, ev_add, ev_sub, ev_mul, ev_lss, ev_leq, ev_gtr, ev_geq, ev_eql, ev_neq, ev_seql, ev_sneq, ev_sleq, ev_slss, ev_not, ev_min, ev_max, asNat_nat, asNat_zero, asNat_one, asNat_two, asNat_three, vb_len, List.length_cons, List.length_nil, Nat.reduceAdd, Nat.reduceLeDiff, Nat.reduceMul, Int.reduceEq, Int.reduceLT, Int.reduceLE, Int.reduceNeg, Int.reduceAdd, Int.reduceSub, Nat.reduceLT, decide_true, decide_false, not_true_eq_false, not_false_eq_true, and_self, and_true, true_and, storeA, List.take_zero, List.drop_succ_cons, List.drop_zero, List.nil_append, List.append_nil, List.take_succ_cons, List.cons_append, cut_cons, cut_zero, cut_skip, tAt, hHide, hAt, upsAt, List.contains_cons, List.contains_nil, Nat.reduceBEq, Bool.or_true, Bool.true_or, Bool.or_false, Bool.false_or, Bool.or_self, Bool.and_true, Bool.true_and, Bool.and_false, Bool.false_and, beq_self_eq_true (α := Nat), Option.some_beq_some, Option.none_beq_some, Option.some_beq_none, Bool.false_eq_true, List.all_nil, touch, touchB, Nat.sub_self, List.range'_zero, Nat.add_sub_cancel_left, List.range'_one, q2, xp0, yp0, xq0, yq0, xp1, yp1, xq1, yq1, xp2, yp2, xq2, yq2, xp3, yp3, xq3, yq3, xp4, yp4, xq4, yq4, xp5, yp5, xq5, yq5, xp6, yp6, xq6, yq6, z1, z2, z3, z4, z5, z6, z7, z8, z9, z10, z11, z12, z13, z14, z15, z16]
        · simp only [vop, val, argsT, upd_ap, Nat.reduceEqDiff, if_true, if_false, ite_true, ite_false, reduceIte, loadAt, loadA, AV.cells, AV.one, List.all_cons, List.all_nil, ofV, ofCell, plain, List.getElem?_cons_zero, List.getElem?_cons_succ, List.getElem?_toArray, Option.getD_some, Bool.not_true, Bool.not_false, Bool.false_eq_true, Bool.and_true, Bool.true_and, Bool.and_self, Nat.zero_add, Option.map_some, Option.bind_some, List.map_cons, List.map_nil, ev_add, ev_sub, ev_mul, ev_lss, ev_leq, ev_gtr, ev_geq, ev_eql, ev_neq, ev_seql, ev_sneq, ev_sleq, ev_slss, ev_not, ev_min, ev_max, asNat_nat, asNat_zero, asNat_one, asNat_two, asNat_three, vb_len, List.length_cons, List.length_nil, Nat.reduceAdd, Nat.reduceLeDiff, Nat.reduceMul, Int.reduceEq, Int.reduceLT, Int.reduceLE, Int.reduceNeg, Int.reduceAdd, Int.reduceSub, Nat.reduceLT, decide_true, decide_false, not_true_eq_false, not_false_eq_true, and_self, and_true, true_and, storeA, List.take_zero, List.drop_succ_cons, List.drop_zero, List.nil_append, List.append_nil, List.take_succ_cons, List.cons_append, cut_cons, cut_zero, cut_skip, tAt, hHide, hAt, upsAt, List.contains_cons, List.contains_nil, Nat.reduceBEq, Bool.or_true, Bool.true_or, Bool.or_false, Bool.false_or, Bool.or_self, Bool.and_true, Bool.true_and, Bool.and_false, Bool.false_and, beq_self_eq_true (α := Nat), Option.some_beq_some, Option.none_beq_some, Option.some_beq_none, Bool.false_eq_true, List.all_nil, touch, touchB, Nat.sub_self, List.range'_zero, Nat.add_sub_cancel_left, List.range'_one, xp0, yp0, xq0, yq0, xp1, yp1, xq1, yq1, xp2, yp2, xq2, yq2, xp3, yp3, xq3, yq3, xp4, yp4, xq4, yq4, xp5, yp5, xq5, yq5, xp6, yp6, xq6, yq6, z1, z2, z3, z4, z5, z6, z7, z8, z9, z10, z11, z12, z13, z14, z15, z16]
          rw [List.range_succ, hE]
          simp only [List.map_append, List.map_cons, List.map_nil]
          rw [← encs_snoc]
          rfl
end Go.Proofs.Bv
namespace Go.Proofs.Bv
open Go
set_option maxHeartbeats 4000000 in
set_option maxRecDepth 100000 in
theorem pc16E (G : Nat → Option (List AV)) (k : Int) (ng : Bool) (cf : List Int) (ex : Int) (t : ByteArray) (l : List JV) (ks : List ByteArray)
    (hv : Fit (.mk k ng cf ex t l ks)) (hc : ¬ chk (.mk k ng cf ex t l ks) = 0) :
    Pc (Cf G) 16 [.agg (enc (.mk k ng cf ex t l ks))] (withE nullV (chk (.mk k ng cf ex t l ks))) := by
  have h1 := pc44 G (.mk k ng cf ex t l ks) hv
  generalize chk (.mk k ng cf ex t l ks) = c at *
  simp only [withE, nullV, enc] at h1 ⊢
  refine Pc_of (Gf_enter (C := Cf G) Tryz.func16 rfl ok16 (Nat.le_of_ble_eq_true rfl) ?_)
  simp only [Tryz.f16, Option.getD_some]
  refine wC1 hc (wa h1 trivial) ?_
  simp only [one1, frz_t, frz_a, mapF, frz_s, frz_n, Option.map_some, List.append_nil]
  rfl
set_option maxHeartbeats 4000000 in
set_option maxRecDepth 100000 in
theorem pc16K (G : Nat → Option (List AV)) (k : Int) (ng : Bool) (cf : List Int) (ex : Int) (t : ByteArray) (l : List JV) (ks : List ByteArray)
    (hv : Fit (.mk k ng cf ex t l ks)) (hc : chk (.mk k ng cf ex t l ks) = 0) (hk : k < 5) :
    Pc (Cf G) 16 [.agg (enc (.mk k ng cf ex t l ks))] (withE nullV 41) := by
  have h1 := pc44 G (.mk k ng cf ex t l ks) hv
  rw [hc] at h1
  simp only [withE, nullV, enc] at h1 ⊢
  refine Pc_of (Gf_enter (C := Cf G) Tryz.func16 rfl ok16 (Nat.le_of_ble_eq_true rfl) ?_)
  simp only [Tryz.f16, Option.getD_some]
  refine wC1 hk (wa h1 trivial) ?_
  simp only [one1, frz_t, frz_a, mapF, frz_s, frz_n, Option.map_some, List.append_nil]
  rfl
end Go.Proofs.Bv
namespace Go.Proofs.Bv
open Go
theorem leaf_chk {k : Int} {ng : Bool} {cf : List Int} {ex : Int} {t : ByteArray} (hk : ¬ (k = 5 ∨ k = 6)) (ho : own (.mk k ng cf ex t [] []) = 0) : chk (.mk k ng cf ex t [] []) = 0 := by
  have hd : deep (.mk k ng cf ex t [] []) 1000 = 0 := by
    simp only [deep]
    rw [if_pos (by omega)]
  have hs : size (.mk k ng cf ex t [] []) = 1 := by simp only [size, sizes]; omega
  unfold chk
  rw [hd, hs, if_neg (by omega), if_neg (by omega)]
  simp only [pre, pres, firstErr]
  rw [if_pos ho]
theorem or2_zero {a b : Int} (h : or2 a b = 0) : a = 0 ∧ b = 0 := by
  unfold or2 at h
  split at h <;> simp_all
theorem textsK_zero : (ks : List ByteArray) → (e : Int) → textsK ks e = 0 → e = 0 ∧ ∀ s ∈ ks, letters s = 0
  | [], e, h => ⟨h, by simp⟩
  | k :: r, e, h => by
    simp only [textsK] at h
    obtain ⟨h1, h2⟩ := textsK_zero r _ h
    obtain ⟨h3, h4⟩ := or2_zero h1
    exact ⟨h3, fun s hs => (List.mem_cons.1 hs).elim (fun q => by rw [q]; exact h4) (h2 s)⟩
theorem text_own {s : ByteArray} (h : letters s = 0) : own (textV s) = 0 := by
  simp [textV, own, texts, textsK, h, numOk, used, rises]
theorem num_own {m : Nat} (hm : m ≤ 9223372036854775807) : own (numV m) = 0 := by
  obtain ⟨f1, f2, f3, f6⟩ := int_facts hm
  have hc : chkFrom ⟨#[]⟩ 0 = (0, 0) := by rw [chkFrom, dif_neg (by decide)]; rfl
  have hl : letters ⟨#[]⟩ = 0 := by unfold letters; rw [hc]; rfl
  have hn : noText ⟨#[]⟩ = true := beq_self_eq_true _
  simp [numV, own, texts, textsK, hl, hn, numOk, f6, used, rises]
theorem text_chk {s : ByteArray} (h : letters s = 0) : chk (textV s) = 0 := leaf_chk (by decide) (text_own h)
theorem num_chk {m : Nat} (hm : m ≤ 9223372036854775807) : chk (numV m) = 0 := leaf_chk (by decide) (num_own hm)
end Go.Proofs.Bv
namespace Go.Proofs.Bv
open Go
theorem chk_own1 {v : JV} (h : chk v = 0) : own v = 0 := by
  obtain ⟨k, ng, cf, ex, t, l, ks⟩ := v
  unfold chk at h
  split at h
  · omega
  · split at h
    · omega
    · simp only [pre, firstErr] at h
      split at h
      · assumption
      · assumption
theorem own_said {k : Int} {ng : Bool} {cf : List Int} {ex : Int} {t : ByteArray} {l : List JV} {ks : List ByteArray} (h : own (.mk k ng cf ex t l ks) = 0) :
    (0 ≤ k ∧ k ≤ 6) ∧ l.length ≤ 4096 ∧ (k = 3 → decChk ng cf ex = 0) ∧ (k = 6 → ks.length = l.length) ∧ letters t = 0 ∧ ∀ s ∈ ks, letters s = 0 := by
  simp only [own] at h
  split at h
  · omega
  · rename_i h1
    split at h
    · omega
    · rename_i h2
      split at h
      · omega
      · rename_i h3
        split at h
        · omega
        · rename_i h4
          have ht : texts (.mk k ng cf ex t l ks) = 0 := Decidable.not_not.1 h2
          obtain ⟨t1, t2⟩ := textsK_zero _ _ ht
          have hu : used (.mk k ng cf ex t l ks) = true := by
            cases hq : used (.mk k ng cf ex t l ks)
            · exact absurd (.inr (.inl hq)) h4
            · rfl
          have hn : numOk (.mk k ng cf ex t l ks) = true := by
            cases hq : numOk (.mk k ng cf ex t l ks)
            · exact absurd (.inl hq) h4
            · rfl
          refine ⟨by omega, by omega, fun h => ?_, fun h => ?_, t1, t2⟩
          · simp only [numOk, if_pos h] at hn
            exact of_decide_eq_true hn
          · simp only [used, if_pos h, Bool.and_eq_true] at hu
            have := of_decide_eq_true hu.2
            omega
theorem letters_size {s : ByteArray} (h : letters s = 0) : s.size ≤ 16384 := by
  unfold letters at h
  split at h
  · split at h
    · omega
    · omega
  · contradiction
theorem text_fit {s : ByteArray} (h : letters s = 0) : Fit (textV s) := by
  have := letters_size h
  refine ⟨⟨by decide, by decide, by simp, by simp, by omega, by simp, by simp, by simp⟩, trivial⟩
theorem num_fit {m : Nat} (hm : m ≤ 9223372036854775807) : Fit (numV m) := by
  obtain ⟨f1, f2, ⟨e, f3, f4, f5⟩, f6⟩ := int_facts hm
  have h1 := lim_len 20 _ f2
  refine ⟨⟨by decide, by rw [f3]; omega, lim_limbs _, by omega, by decide, by simp, by simp, by simp⟩, trivial⟩
theorem chks_two {a b : JV} (ha : chk a = 0) (hb : chk b = 0) : chks [a, b] = 0 := by
  simp only [chks, ha, hb, if_true]
end Go.Proofs.Bv
namespace Go.Proofs.Bv
open Go
theorem ok167 : codeOk 18 (Tryz.f167.body.getD .skip) = true := by kernel_rfl
theorem ok107 : codeOk 6 (Tryz.f107.body.getD .skip) = true := by kernel_rfl
theorem ok169 : codeOk 21 (Tryz.f169.body.getD .skip) = true := by kernel_rfl
set_option maxRecDepth 100000 in
theorem pc167 (G : Nat → Option (List AV)) (m : Nat) (hm : m ≤ 4294967295) : Pc (Cf G) 167 [.sc (.int .u64 m)] (lsl m) := by
  unfold lsl
  by_cases h0 : m = 0
  · subst h0
    rw [lim_zero]
    refine Pc_of (Gf_enter (C := Cf G) Tryz.func167 rfl ok167 (Nat.le_of_ble_eq_true rfl) ?_)
    simp only [Tryz.f167, Option.getD_some]
    refine wB1 trivial ?_
    simp only [one1, frz_n, Option.map_some]
    rfl
  · have q0 : ¬ (m : Int) = 0 := by omega
    have q1 : (m : Int) < 4294967296 := by omega
    have w1 : IntKind.u32.wrap (m : Int) = m := IntWalk.u32_in _ (by omega)
    rw [lim_one (by omega) hm]
    refine Pc_of (Gf_enter (C := Cf G) Tryz.func167 rfl ok167 (Nat.le_of_ble_eq_true rfl) ?_)
    simp only [Tryz.f167, Option.getD_some]
    refine wB1 (wa q0 (wa q1 w1)) ?_
    simp only [one1]
    rw [frz_w (by simp only [vop, val, argsT, upd_ap, Nat.reduceEqDiff, if_true, if_false, ite_true, ite_false, reduceIte, loadAt, loadA, AV.cells, AV.one, List.all_cons, List.all_nil, ofV, ofCell, plain, List.getElem?_cons_zero, List.getElem?_cons_succ, List.getElem?_toArray, Option.getD_some, Bool.not_true, Bool.not_false, Bool.false_eq_true, Bool.and_true, Bool.true_and, Bool.and_self, Nat.zero_add, Option.map_some, Option.bind_some, List.map_cons, List.map_nil, ev_add, ev_sub, ev_mul, ev_lss, ev_leq, ev_gtr, ev_geq, ev_eql, ev_neq, ev_seql, ev_sneq, ev_sleq, ev_slss, ev_not, ev_min, ev_max, asNat_nat, asNat_zero, asNat_one, asNat_two, asNat_three, vb_len, List.length_cons, List.length_nil, Nat.reduceAdd, Nat.reduceLeDiff, Nat.reduceMul, Int.reduceEq, Int.reduceLT, Int.reduceLE, Int.reduceNeg, Int.reduceAdd, Int.reduceSub, Nat.reduceLT, decide_true, decide_false, not_true_eq_false, not_false_eq_true, and_self, and_true, true_and, storeA, List.take_zero, List.drop_succ_cons, List.drop_zero, List.nil_append, List.append_nil, List.take_succ_cons, List.cons_append, cut_cons, cut_zero, cut_skip, tAt, hHide, hAt, upsAt, List.contains_cons, List.contains_nil, Nat.reduceBEq, Bool.or_true, Bool.true_or, Bool.or_false, Bool.false_or, Bool.or_self, Bool.and_true, Bool.true_and, Bool.and_false, Bool.false_and, beq_self_eq_true (α := Nat), Option.some_beq_some, Option.none_beq_some, Option.some_beq_none, Bool.false_eq_true, List.all_nil, touch, touchB, Nat.sub_self, List.range'_zero, Nat.add_sub_cancel_left, List.range'_one]; with_reducible rfl) rfl rfl]
    rfl
theorem NV_lim (n : Nat) : NV (lim n) = n := by unfold NV; rw [nv_lim]; rfl
theorem pc107 (G : Nat → Option (List AV)) (m : Nat) (hm : m ≤ 4294967295) : Pc (Cf G) 107 [.sc (.int .u64 m)] (.psl (i64s (digs m)) (digs m).length) := by
  have h1 := pc167 G m hm
  have h2 := pc166 G (lim m) (by have := lim_len 10 m (by omega); omega) (lim_limbs m)
  rw [NV_lim] at h2
  unfold lsl at h1
  refine Pc_of (Gf_enter (C := Cf G) Tryz.func107 rfl ok107 (Nat.le_of_ble_eq_true rfl) ?_)
  simp only [Tryz.f107, Option.getD_some]
  refine wC1 trivial (wa h1 (wa h2 trivial)) ?_
  simp only [one1, frz_l, Option.map_some]
theorem digs_dv : (l : List Nat) → (∀ d ∈ l, d < 10) → (∀ x, l.getLast? = some x → x ≠ 0) → digs (dv l) = l
  | [], _, _ => by simp [dv, digs_zero]
  | [x], h, hl => by
    have h1 := h x (by simp)
    have h2 := hl x (by simp)
    simp only [dv, Nat.mul_zero, Nat.add_zero]
    rw [digs_pos (by omega), Nat.mod_eq_of_lt h1, Nat.div_eq_of_lt h1, digs_zero]
  | x :: y :: r, h, hl => by
    have h1 := h x (by simp)
    have ih := digs_dv (y :: r) (fun d hd => h d (List.mem_cons_of_mem _ hd)) (fun z hz => hl z (by simpa [List.getLast?_cons_cons] using hz))
    have hp : dv (y :: r) ≠ 0 := by
      intro e
      rw [e, digs_zero] at ih
      simp at ih
    rw [show dv (x :: y :: r) = x + 10 * dv (y :: r) from rfl, digs_pos (by omega), show (x + 10 * dv (y :: r)) % 10 = x by omega, show (x + 10 * dv (y :: r)) / 10 = dv (y :: r) by omega, ih]
set_option maxHeartbeats 4000000 in
set_option maxRecDepth 100000 in
theorem pc169 (G : Nat → Option (List AV)) (l : List Nat) (hl : l.length ≤ 100000) (h : ∀ d ∈ l, d < 10) : Pc (Cf G) 169 [.psl (i64s l) l.length] (.psl (i64s (digs (dv l))) (digs (dv l)).length) := by
  refine Pc_of (Gf_enter (C := Cf G) Tryz.func169 rfl ok169 (Nat.le_of_ble_eq_true rfl) ?_)
  simp only [Tryz.f169, Option.getD_some]
  refine wB1 trivial ?_
  refine Gc_loop_inv (fun m st => m ≤ l.length ∧ st.T 0 = .psl (i64s l) l.length ∧ st.T 3 = .sc (.int .i64 m) ∧ dv (l.take m) = dv l) ?_ l.length _ ⟨Nat.le_refl _, ?_⟩
  · rintro m ⟨T, hh, n⟩ ⟨hm, t0, t3, hd⟩
    simp only at t0 t3
    have b1 := bnds_hi hm
    by_cases h0 : m = 0
    · subst h0
      have e : digs (dv l) = [] := by rw [← hd]; simp [dv, digs_zero]
      rw [e]
      have q1 : ¬ (0 : Int) < ((0 : Nat) : Int) := by omega
      refine wB1 (wa t0 (wa t3 q1)) ?_
      simp only [one1, frz_l, Option.map_some]
      simp [cut, i64s]
    · obtain ⟨k, hmk⟩ : ∃ k, m = k + 1 := ⟨m - 1, by omega⟩
      have hk : k < l.length := by omega
      obtain ⟨x, hx⟩ : ∃ x, l[k]? = some x := ⟨l[k], List.getElem?_eq_getElem hk⟩
      have hx' : (i64s l)[k * 1]? = some (.sc (.int .i64 (x : Int))) := by simp [i64s, hx]
      have q1 : (0 : Int) < (m : Int) := by omega
      have wk : IntKind.i64.wrap ((m : Int) - 1) = (k : Int) := by rw [i64 (by omega) (by omega)]; omega
      have htk : l.take m = l.take k ++ [x] := by
        rw [hmk, List.take_add_one, hx]
        rfl
      by_cases hx0 : x = 0
      · subst hx0
        refine wB1 (wa t0 (wa t3 (wa q1 (wa wk (wa hk hx'))))) ?_
        refine ⟨k, by omega, by omega, ?_, ?_, ?_⟩
        · simp only [vop, val, argsT, upd_ap, Nat.reduceEqDiff, if_true, if_false, ite_true, ite_false, reduceIte, loadAt, loadA, AV.cells, AV.one, List.all_cons, List.all_nil, ofV, ofCell, plain, List.getElem?_cons_zero, List.getElem?_cons_succ, List.getElem?_toArray, Option.getD_some, Bool.not_true, Bool.not_false, Bool.false_eq_true, Bool.and_true, Bool.true_and, Bool.and_self, Nat.zero_add, Option.map_some, Option.bind_some, List.map_cons, List.map_nil, ev_add, ev_sub, ev_mul, ev_lss, ev_leq, ev_gtr, ev_geq, ev_eql, ev_neq, ev_seql, ev_sneq, ev_sleq, ev_slss, ev_not, ev_min, ev_max, asNat_nat, asNat_zero, asNat_one, asNat_two, asNat_three, vb_len, List.length_cons, List.length_nil, Nat.reduceAdd, Nat.reduceLeDiff, Nat.reduceMul, Int.reduceEq, Int.reduceLT, Int.reduceLE, Int.reduceNeg, Int.reduceAdd, Int.reduceSub, Nat.reduceLT, decide_true, decide_false, not_true_eq_false, not_false_eq_true, and_self, and_true, true_and, storeA, List.take_zero, List.drop_succ_cons, List.drop_zero, List.nil_append, List.append_nil, List.take_succ_cons, List.cons_append, cut_cons, cut_zero, cut_skip, tAt, hHide, hAt, upsAt, List.contains_cons, List.contains_nil, Nat.reduceBEq, Bool.or_true, Bool.true_or, Bool.or_false, Bool.false_or, Bool.or_self, Bool.and_true, Bool.true_and, Bool.and_false, Bool.false_and, beq_self_eq_true (α := Nat), Option.some_beq_some, Option.none_beq_some, Option.some_beq_none, Bool.false_eq_true, List.all_nil, touch, touchB, Nat.sub_self, List.range'_zero, Nat.add_sub_cancel_left, List.range'_one, t0]
        · simp only [vop, val, argsT, upd_ap, Nat.reduceEqDiff, if_true, if_false, ite_true, ite_false, reduceIte, loadAt, loadA, AV.cells, AV.one, List.all_cons, List.all_nil, ofV, ofCell, plain, List.getElem?_cons_zero, List.getElem?_cons_succ, List.getElem?_toArray, Option.getD_some, Bool.not_true, Bool.not_false, Bool.false_eq_true, Bool.and_true, Bool.true_and, Bool.and_self, Nat.zero_add, Option.map_some, Option.bind_some, List.map_cons, List.map_nil, ev_add, ev_sub, ev_mul, ev_lss, ev_leq, ev_gtr, ev_geq, ev_eql, ev_neq, ev_seql, ev_sneq, ev_sleq, ev_slss, ev_not, ev_min, ev_max, asNat_nat, asNat_zero, asNat_one, asNat_two, asNat_three, vb_len, List.length_cons, List.length_nil, Nat.reduceAdd, Nat.reduceLeDiff, Nat.reduceMul, Int.reduceEq, Int.reduceLT, Int.reduceLE, Int.reduceNeg, Int.reduceAdd, Int.reduceSub, Nat.reduceLT, decide_true, decide_false, not_true_eq_false, not_false_eq_true, and_self, and_true, true_and, storeA, List.take_zero, List.drop_succ_cons, List.drop_zero, List.nil_append, List.append_nil, List.take_succ_cons, List.cons_append, cut_cons, cut_zero, cut_skip, tAt, hHide, hAt, upsAt, List.contains_cons, List.contains_nil, Nat.reduceBEq, Bool.or_true, Bool.true_or, Bool.or_false, Bool.false_or, Bool.or_self, Bool.and_true, Bool.true_and, Bool.and_false, Bool.false_and, beq_self_eq_true (α := Nat), Option.some_beq_some, Option.none_beq_some, Option.some_beq_none, Bool.false_eq_true, List.all_nil, touch, touchB, Nat.sub_self, List.range'_zero, Nat.add_sub_cancel_left, List.range'_one]
        · rw [← hd, htk, dv_append]
          simp [dv]
      · have q2 : ¬ (x : Int) = 0 := by omega
        have e : digs (dv l) = l.take m := by
          rw [← hd]
          refine digs_dv _ (fun d hd' => h d (List.mem_of_mem_take hd')) (fun z hz => ?_)
          rw [htk] at hz
          simp at hz
          omega
        rw [e]
        refine wB1 (wa t0 (wa t3 (wa q1 (wa wk (wa hk (wa hx' (wa q2 b1))))))) ?_
        simp only [one1, frz_l, Option.map_some]
        rw [List.length_take, Nat.min_eq_left (by omega)]
        simp [cut, i64s, List.map_take]
  · simp [upd_ap, argsT]
end Go.Proofs.Bv
namespace Go.Proofs.Bv
open Go
theorem ok168 : codeOk 36 (Tryz.f168.body.getD .skip) = true := by kernel_rfl
def OwnD (x : AV) (h : Heap) (n : Nat) (l : List Nat) : Prop := (x = .nilS ∧ l = []) ∨ ∃ b, x = .osl b 0 l.length ∧ h b = some (.cells (i64s l) 1 false) ∧ b < n
theorem i64s_snoc (d : List Nat) (x : Nat) : i64s d ++ [AV.sc (.int .i64 (x : Int))] = i64s (d ++ [x]) := by simp [i64s]
theorem i64s_len1 (l : List Nat) : (i64s l).length = l.length * 1 := by simp [i64s]
end Go.Proofs.Bv
namespace Go.Proofs.Bv
open Go
set_option maxHeartbeats 4000000 in
set_option maxRecDepth 100000 in
theorem gf169 (G : Nat → Option (List AV)) (l : List Nat) (hl : l.length ≤ 100000) (h10 : ∀ d ∈ l, d < 10) {b : Nat} {h : Heap} {n : Nat} (hb : h b = some (.cells (i64s l) 1 false)) (Q : AV → Heap → Nat → Prop)
    (hq : Q (.osl b 0 (digs (dv l)).length) h n) : Gf (Cf G) 169 [.osl b 0 l.length] h n Q := by
  refine Gf_enter (C := Cf G) Tryz.func169 rfl ok169 (Nat.le_of_ble_eq_true rfl) ?_
  simp only [Tryz.f169, Option.getD_some]
  refine wB1 trivial ?_
  refine Gc_loop_inv (fun m st => m ≤ l.length ∧ st.T 0 = .osl b 0 l.length ∧ st.T 3 = .sc (.int .i64 m) ∧ dv (l.take m) = dv l ∧ st.h = h ∧ st.n = n) ?_ l.length _ ⟨Nat.le_refl _, ?_⟩
  · rintro m ⟨T, hh, nn⟩ ⟨hm, t0, t3, hd, e1, e2⟩
    simp only at t0 t3 e1 e2
    subst e1
    subst e2
    have b1 := bnds_hi hm
    have hcap : l.length * 1 ≤ (i64s l).length := by rw [i64s_len]; omega
    by_cases h0 : m = 0
    · subst h0
      have e : digs (dv l) = [] := by rw [← hd]; simp [dv, digs_zero]
      rw [e] at hq
      have q1 : ¬ (0 : Int) < ((0 : Nat) : Int) := by omega
      refine wB1 (wa t0 (wa t3 (wa q1 (wa b1 (wa hb hcap))))) ?_
      exact hq
    · obtain ⟨k, hmk⟩ : ∃ k, m = k + 1 := ⟨m - 1, by omega⟩
      have hk : k < l.length := by omega
      obtain ⟨x, hx⟩ : ∃ x, l[k]? = some x := ⟨l[k], List.getElem?_eq_getElem hk⟩
      have hx' : (i64s l)[k * 1]? = some (.sc (.int .i64 (x : Int))) := by simp [i64s, hx]
      have q1 : (0 : Int) < (m : Int) := by omega
      have wk : IntKind.i64.wrap ((m : Int) - 1) = (k : Int) := by rw [i64 (by omega) (by omega)]; omega
      have htk : l.take m = l.take k ++ [x] := by
        rw [hmk, List.take_add_one, hx]
        rfl
      by_cases hx0 : x = 0
      · subst hx0
        refine wB1 (wa t0 (wa t3 (wa q1 (wa wk (wa hk (wa hx' (wa hb hcap))))))) ?_
        refine ⟨k, by omega, by omega, ?_, ?_, ?_, rfl, rfl⟩
        · simp only [vop, val, argsT, upd_ap, Nat.reduceEqDiff, if_true, if_false, ite_true, ite_false, reduceIte, loadAt, loadA, AV.cells, AV.one, List.all_cons, List.all_nil, ofV, ofCell, plain, List.getElem?_cons_zero, List.getElem?_cons_succ, List.getElem?_toArray, Option.getD_some, Bool.not_true, Bool.not_false, Bool.false_eq_true, Bool.and_true, Bool.true_and, Bool.and_self, Nat.zero_add, Option.map_some, Option.bind_some, List.map_cons, List.map_nil, ev_add, ev_sub, ev_mul, ev_lss, ev_leq, ev_gtr, ev_geq, ev_eql, ev_neq, ev_seql, ev_sneq, ev_sleq, ev_slss, ev_not, ev_min, ev_max, asNat_nat, asNat_zero, asNat_one, asNat_two, asNat_three, vb_len, List.length_cons, List.length_nil, Nat.reduceAdd, Nat.reduceLeDiff, Nat.reduceMul, Int.reduceEq, Int.reduceLT, Int.reduceLE, Int.reduceNeg, Int.reduceAdd, Int.reduceSub, Nat.reduceLT, decide_true, decide_false, not_true_eq_false, not_false_eq_true, and_self, and_true, true_and, storeA, List.take_zero, List.drop_succ_cons, List.drop_zero, List.nil_append, List.append_nil, List.take_succ_cons, List.cons_append, cut_cons, cut_zero, cut_skip, tAt, hHide, hAt, upsAt, List.contains_cons, List.contains_nil, Nat.reduceBEq, Bool.or_true, Bool.true_or, Bool.or_false, Bool.false_or, Bool.or_self, Bool.and_true, Bool.true_and, Bool.and_false, Bool.false_and, beq_self_eq_true (α := Nat), Option.some_beq_some, Option.none_beq_some, Option.some_beq_none, Bool.false_eq_true, List.all_nil, touch, touchB, Nat.sub_self, List.range'_zero, Nat.add_sub_cancel_left, List.range'_one, t0]
        · simp only [vop, val, argsT, upd_ap, Nat.reduceEqDiff, if_true, if_false, ite_true, ite_false, reduceIte, loadAt, loadA, AV.cells, AV.one, List.all_cons, List.all_nil, ofV, ofCell, plain, List.getElem?_cons_zero, List.getElem?_cons_succ, List.getElem?_toArray, Option.getD_some, Bool.not_true, Bool.not_false, Bool.false_eq_true, Bool.and_true, Bool.true_and, Bool.and_self, Nat.zero_add, Option.map_some, Option.bind_some, List.map_cons, List.map_nil, ev_add, ev_sub, ev_mul, ev_lss, ev_leq, ev_gtr, ev_geq, ev_eql, ev_neq, ev_seql, ev_sneq, ev_sleq, ev_slss, ev_not, ev_min, ev_max, asNat_nat, asNat_zero, asNat_one, asNat_two, asNat_three, vb_len, List.length_cons, List.length_nil, Nat.reduceAdd, Nat.reduceLeDiff, Nat.reduceMul, Int.reduceEq, Int.reduceLT, Int.reduceLE, Int.reduceNeg, Int.reduceAdd, Int.reduceSub, Nat.reduceLT, decide_true, decide_false, not_true_eq_false, not_false_eq_true, and_self, and_true, true_and, storeA, List.take_zero, List.drop_succ_cons, List.drop_zero, List.nil_append, List.append_nil, List.take_succ_cons, List.cons_append, cut_cons, cut_zero, cut_skip, tAt, hHide, hAt, upsAt, List.contains_cons, List.contains_nil, Nat.reduceBEq, Bool.or_true, Bool.true_or, Bool.or_false, Bool.false_or, Bool.or_self, Bool.and_true, Bool.true_and, Bool.and_false, Bool.false_and, beq_self_eq_true (α := Nat), Option.some_beq_some, Option.none_beq_some, Option.some_beq_none, Bool.false_eq_true, List.all_nil, touch, touchB, Nat.sub_self, List.range'_zero, Nat.add_sub_cancel_left, List.range'_one]
        · rw [← hd, htk, dv_append]
          simp [dv]
      · have q2 : ¬ (x : Int) = 0 := by omega
        have e : digs (dv l) = l.take m := by
          rw [← hd]
          refine digs_dv _ (fun d hd' => h10 d (List.mem_of_mem_take hd')) (fun z hz => ?_)
          rw [htk] at hz
          simp at hz
          omega
        rw [e, List.length_take, Nat.min_eq_left hm] at hq
        refine wB1 (wa t0 (wa t3 (wa q1 (wa wk (wa hk (wa hx' (wa q2 (wa b1 (wa hb hcap))))))))) ?_
        exact hq
  · simp [upd_ap, argsT]
end Go.Proofs.Bv
namespace Go.Proofs.Bv
open Go
set_option maxHeartbeats 8000000 in
set_option maxRecDepth 100000 in
theorem gf168 (G : Nat → Option (List AV)) (l : List Nat) (hl : l.length ≤ 100000) (h10 : ∀ d ∈ l, d < 10) (h0 : l ≠ []) {b0 : Nat} {cs : List AV} {h : Heap} {n : Nat} (hb0 : h b0 = some (.cells cs 1 false)) (hcs : ∀ i : Nat, i < l.length → cs[i * 1]? = (i64s l)[i * 1]?) (hcl : l.length ≤ cs.length) (hbn0 : b0 < n) (Q : AV → Heap → Nat → Prop)
    (hq : ∀ b h' n', n ≤ b → b < n' → h' b = some (.cells (i64s l) 1 false) → (∀ m, m < n → h' m = h m) → Q (.osl b 0 (digs (dv l)).length) h' n') : Gf (Cf G) 168 [.osl b0 0 l.length] h n Q := by
  refine Gf_enter (C := Cf G) Tryz.func168 rfl ok168 (Nat.le_of_ble_eq_true rfl) ?_
  simp only [Tryz.f168, Option.getD_some]
  refine wB1 trivial ?_
  refine Gc_loop_inv (fun m st => ∃ d r, l = d ++ r ∧ m = r.length ∧ st.T 0 = .osl b0 0 l.length ∧ st.T 5 = .sc (.int .i64 d.length) ∧ st.T 4 = .sc (.int .i64 0) ∧ n ≤ st.n ∧ (∀ m, m < n → st.h m = h m) ∧ ((st.T 3 = .nilS ∧ d = []) ∨ ∃ b, st.T 3 = .osl b 0 d.length ∧ st.h b = some (.cells (i64s d) 1 false) ∧ n ≤ b ∧ b < st.n)) ?_ l.length _ ⟨[], l, rfl, rfl, rfl, rfl, rfl, Nat.le_refl _, fun _ _ => rfl, .inl ⟨rfl, rfl⟩⟩
  rintro m ⟨T, hh, nn⟩ ⟨d, r, hdr, rfl, t0, t5, t4, hnn, hfr, ho⟩
  simp only at t0 t5 t4 hnn hfr ho
  have p0 : hh b0 = some (.cells cs 1 false) := by rw [hfr b0 hbn0]; exact hb0
  cases r with
  | nil =>
    have e : d = l := by rw [hdr]; simp
    subst e
    have hge : ¬ (d.length : Int) < (d.length : Int) := by omega
    refine wB1 (wa t0 (wa t5 (wa t4 hge))) ?_
    rcases ho with ⟨_, hd⟩ | ⟨b, t3, q0, hb, hb2⟩
    · exact absurd hd h0
    · refine Gc_loop_inv (fun m st => st.T 4 = .sc (.int .i64 0) ∧ st.T 3 = .osl b 0 d.length ∧ st.h = hh ∧ st.n = nn) ?_ 0 _ ⟨t4, t3, rfl, rfl⟩
      rintro m2 ⟨T2, h2, n2⟩ ⟨u4, u3, e1, e2⟩
      simp only at u4 u3 e1 e2
      subst e1
      subst e2
      have h1 := pc169 G d hl h10
      repeat' first | refine w_op rfl rfl ?_ | refine x_p rfl ?_ | refine w_sr ?_ | refine st_nil ?_ | refine w_seq ?_ | refine st_region ?_ | refine st_block ?_ | refine w_cond ?_ | refine b_t ?_ | refine b_f ?_ | refine st_skip ?_ | refine st_exit ?_ | refine st_ret ?_ | refine st_onNormN ?_ | refine st_onNormE ?_ | refine st_onNormR ?_ | refine st_onExitN ?_ | refine st_onExitR ?_ | refine st_onExitS ?_ | refine st_onExitO (by decide) ?_ | refine g_t ?_ | refine g_f rfl ?_ | refine o_op rfl ?_ | refine w_wr ?_ | refine w_wn ?_ | refine d_c rfl ?_ | refine d_on rfl ?_ | refine d_op rfl ?_ | refine d_y ?_ | refine d_gd rfl ?_ | refine d_t ?_ | refine d_f ?_ | refine d_nil ?_ | refine w_dr rfl ?_ | refine d_q ?_ | refine n_0 rfl ?_ | refine d_n ?_ | refine k_p rfl rfl rfl rfl (h1) ?_ | refine w_gd rfl ?_ | ((first | refine zE1 ?_ | refine w_cl rfl rfl ?_ | refine o_cl rfl ?_ | refine d_cl rfl ?_); (conv => arg 1; try simp only [go_sem, Nat.reduceEqDiff, reduceIte, Nat.reduceAdd, Nat.reduceLeDiff, Nat.reduceMul, Int.reduceEq, Int.reduceLT, Int.reduceLE, Int.reduceNeg, Int.reduceAdd, Int.reduceSub, Nat.reduceLT, Nat.reduceBEq, Nat.reduceSub, Nat.reducePow, u4, u3, q0]); first | refine zE3 ?_ | refine zE2 ?_ | refine zE4 ?_ | refine zE5 ?_ | refine zE6 ?_ | refine zE7 ?_ | refine zE8 ?_) | (refine w_u false ?_; (conv => arg 1; reduce); refine zR1 ?_) | (refine b_s (fun hb => ?_) (fun hb => ?_) <;> ((try simp only [hn1, hn2, hn3, hn4] at hb); first | (exfalso; omega) | skip)) | (first | refine g_s (fun hb => ?_) (fun hb => ?_) | refine d_s (fun hb => ?_) (fun hb => ?_)) <;> ((try simp only [hn1, hn2] at hb); rw [hb]; try simp only [hn3, hn4] at hb)
      refine k_w rfl rfl ?_
      refine gf169 G d hl h10 q0 _ ?_
      refine n_1 (Nat.le_refl _) rfl ?_
      refine wB1 trivial ?_
      exact hq b _ _ hb hb2 q0 hfr
  | cons x r =>
    have hlt : (d.length : Int) < (l.length : Int) := by rw [hdr]; simp; omega
    have hltn : d.length < l.length := by rw [hdr]; simp
    have hx : cs[d.length * 1]? = some (.sc (.int .i64 (x : Int))) := by rw [hcs _ hltn, hdr]; simp [i64s]
    have hx10 := h10 x (by rw [hdr]; simp)
    have hle : d.length * 1 + 1 ≤ cs.length := by omega
    have w1 : IntKind.i64.wrap (x : Int) = x := i64 (by omega) (by omega)
    have w2 : (x : Int).tmod 10 = x := by rw [Int.tmod_eq_emod_of_nonneg (by omega)]; omega
    have w3 : (x : Int).tdiv 10 = 0 := by rw [Int.tdiv_eq_ediv_of_nonneg (by omega)]; omega
    have w4 : IntKind.i64.wrap ((d.length : Int) + 1) = (d.length : Int) + 1 := i64 (by omega) (by omega)
    have w0 : IntKind.i64.wrap (0 : Int) = 0 := i64 (by omega) (by omega)
    have fin : l = (d ++ [x]) ++ r := by rw [hdr]; simp
    have v1 : ¬ b0 = nn := by omega
    have v2 : ¬ b0 = nn + 1 := by omega
    generalize hdl : d.length = k at t5 hlt hltn hx w4 hle
    rcases ho with ⟨t3, rfl⟩ | ⟨b, t3, q0, hb, hb2⟩
    · refine wB1 (wa t0 (wa t5 (wa t4 (wa t3 (wa p0 (wa hlt (wa hltn (wa hx (wa hle (wa w0 (wa w1 (wa w2 (wa w3 (wa w4 (wa @Int.zero_add (wa v1 v2)))))))))))))))) ?_
      refine ⟨r.length, by simp, [x], r, fin, rfl, ?_, ?_, ?_, by simp only; omega, ?_, .inr ⟨nn + 1, ?_, ?_, by omega, ?_⟩⟩
      · simp [upd_ap, t0]
      · simp only [List.length_nil] at hdl
        simp [upd_ap, ← hdl]
      · simp [upd_ap]
      · intro m hm
        have a1 : ¬ m = nn := by omega
        have a2 : ¬ m = nn + 1 := by omega
        simp [upd_ap, a1, a2, hfr m hm]
      · simp [upd_ap]
      · simp [upd_ap, i64s]
      · simp only; omega
    · have hbn' : ¬ b = nn := by omega
      have hnb : ¬ nn = b := by omega
      have g1 : (d.length + 1) * 8 ≤ 140737488355328 := by omega
      have g2 : d.length + 1 ≤ 140737488355328 := by omega
      have g3 : d.length * 1 ≤ (i64s d).length := by rw [i64s_len]; omega
      have g4 : cut (i64s d) 0 (d.length * 1) = i64s d := by rw [cut, List.drop_zero, Nat.mul_one, List.take_of_length_le (by rw [i64s_len]; omega)]
      refine wB1 (wa t0 (wa t5 (wa t4 (wa t3 (wa q0 (wa p0 (wa hlt (wa hltn (wa hx (wa hle (wa w0 (wa w1 (wa w2 (wa w3 (wa w4 (wa @Int.zero_add (wa hbn' (wa hnb (wa v1 (wa v2 (wa g1 (wa g2 (wa g3 (wa g4 @i64s_snoc)))))))))))))))))))))))) ?_
      refine ⟨r.length, by simp, d ++ [x], r, fin, rfl, ?_, ?_, ?_, by simp only; omega, ?_, .inr ⟨nn + 1, ?_, ?_, by omega, ?_⟩⟩
      · simp [upd_ap, t0]
      · simp [upd_ap, ← hdl]
      · simp [upd_ap]
      · intro m hm
        have a1 : ¬ m = nn := by omega
        have a2 : ¬ m = nn + 1 := by omega
        have a3 : ¬ m = b := by omega
        simp [upd_ap, a1, a2, a3, hfr m hm]
      · simp [upd_ap]
      · simp [upd_ap]
      · simp only; omega
end Go.Proofs.Bv
