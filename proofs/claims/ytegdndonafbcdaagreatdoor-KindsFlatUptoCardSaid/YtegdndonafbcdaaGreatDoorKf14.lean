/-
  A part of the proof of KindsFlatUptoCardSaid: BkFlat2, BkFlat3, BkFlat4, BkLaw1.
  Conditions: those that each part names.
-/
import Derived.Test.YtegdndonafbcdaaGreatDoorKf13
set_option linter.unusedSimpArgs false
set_option linter.unusedVariables false
/-
  kinds.Flatten's function: a value more.
  Conditions: none.
-/
namespace Go.Proofs.Bv
open Go
theorem ok46 : codeOk 16 (Tryz.f46.body.getD .skip) = true := by kernel_rfl
/-- What kinds.Flatten has put together so far. -/
def OutH (h : Heap) (n o : Nat) (acc : List JV) : Prop :=
  o < n ∧ ((acc = [] ∧ h o = some (.cells [.sc (.int .i64 5), .sc (.bool false), .nilS, .sc (.int .i64 0), .sc (.string ByteArray.empty), .nilS, .nilS] 0 false)) ∨
    (acc ≠ [] ∧ ∃ b, o < b ∧ b < n ∧ h o = some (.cells [.sc (.int .i64 5), .sc (.bool false), .nilS, .sc (.int .i64 0), .sc (.string ByteArray.empty), .osl b 0 acc.length, .nilS] 0 false) ∧ h b = some (.cells (encs acc) 7 false)))
theorem bs25 : fillA (fun i => some (i * 7, 7)) (rep 1 [.sc (.int .i64 0), .sc (.bool false), .nilS, .sc (.int .i64 0), .sc (.string ByteArray.empty), .nilS, .nilS]) [(0, .agg [.sc (.int .i64 0), .sc (.bool false), .nilS, .sc (.int .i64 0), .sc (.string { data := #[] }), .nilS, .nilS])] =
    some [.sc (.int .i64 0), .sc (.bool false), .nilS, .sc (.int .i64 0), .sc (.string { data := #[] }), .nilS, .nilS] := rfl
set_option maxHeartbeats 8000000 in
set_option maxRecDepth 100000 in
theorem gf46 (G : Nat → Option (List AV)) (x : JV) (o : Nat) (acc : List JV) (hacc : acc.length ≤ 4096) {h : Heap} {n : Nat} (ho : OutH h n o acc) (Q : AV → Heap → Nat → Prop)
    (hq : ∀ h' n', n ≤ n' → OutH h' n' o (acc ++ [x]) → (∀ m, m < o → h' m = h m) → Q (.sc (.bool (decide ((acc ++ [x]).length ≤ 4096)))) h' n') : Gf (Cf G) 46 [.agg (enc x), .ptr o 0] h n Q := by
  obtain ⟨hon, ho⟩ := ho
  obtain ⟨k, ng, cf, ex, t, l, ks⟩ := x
  rcases ho with ⟨rfl, hh⟩ | ⟨hne, b, hbo, hbn, hh, hhb⟩
  · have xq1 : ¬ o = n := by omega
    have xb1 : (o == n) = false := beq_false_of_ne (by omega)
    have xq2 : ¬ o = (n + 1) := by omega
    have xb2 : (o == (n + 1)) = false := beq_false_of_ne (by omega)
    have xq3 : ¬ o = (n + 1 + 1) := by omega
    have xb3 : (o == (n + 1 + 1)) = false := beq_false_of_ne (by omega)
    have xq4 : ¬ n = o := by omega
    have xb4 : (n == o) = false := beq_false_of_ne (by omega)
    have xq5 : ¬ n = (n + 1) := by omega
    have xb5 : (n == (n + 1)) = false := beq_false_of_ne (by omega)
    have xq6 : ¬ n = (n + 1 + 1) := by omega
    have xb6 : (n == (n + 1 + 1)) = false := beq_false_of_ne (by omega)
    have xq7 : ¬ (n + 1) = o := by omega
    have xb7 : ((n + 1) == o) = false := beq_false_of_ne (by omega)
    have xq8 : ¬ (n + 1) = n := by omega
    have xb8 : ((n + 1) == n) = false := beq_false_of_ne (by omega)
    have xq9 : ¬ (n + 1) = (n + 1 + 1) := by omega
    have xb9 : ((n + 1) == (n + 1 + 1)) = false := beq_false_of_ne (by omega)
    have xq10 : ¬ (n + 1 + 1) = o := by omega
    have xb10 : ((n + 1 + 1) == o) = false := beq_false_of_ne (by omega)
    have xq11 : ¬ (n + 1 + 1) = n := by omega
    have xb11 : ((n + 1 + 1) == n) = false := beq_false_of_ne (by omega)
    have xq12 : ¬ (n + 1 + 1) = (n + 1) := by omega
    have xb12 : ((n + 1 + 1) == (n + 1)) = false := beq_false_of_ne (by omega)
    refine Gf_enter (C := Cf G) Tryz.func46 rfl ok46 (Nat.le_of_ble_eq_true rfl) ?_
    simp only [Tryz.f46, Option.getD_some]
    simp only [enc]
    repeat' first | refine w_op rfl rfl ?_ | refine x_p rfl ?_ | refine w_sr ?_ | refine st_nil ?_ | refine w_seq ?_ | refine st_region ?_ | refine st_block ?_ | refine w_cond ?_ | refine b_t ?_ | refine b_f ?_ | refine st_skip ?_ | refine st_exit ?_ | refine st_ret ?_ | refine st_onNormN ?_ | refine st_onNormE ?_ | refine st_onNormR ?_ | refine st_onExitN ?_ | refine st_onExitR ?_ | refine st_onExitS ?_ | refine st_onExitO (by decide) ?_ | refine g_t ?_ | refine g_f rfl ?_ | refine o_op rfl ?_ | refine w_wr ?_ | refine w_wn ?_ | refine d_c rfl ?_ | refine d_on rfl ?_ | refine d_op rfl ?_ | refine d_y ?_ | refine d_gd rfl ?_ | refine d_t ?_ | refine d_f ?_ | refine d_nil ?_ | refine w_u true ?_ | refine w_dg rfl ?_ | refine d_mid ?_ | refine d_mj ?_ | refine d_e ?_ | refine w_gd rfl ?_ | ((first | refine zE1 ?_); (conv => arg 1; try simp only [go_sem, Nat.reduceEqDiff, reduceIte, Nat.reduceAdd, Nat.reduceLeDiff, Nat.reduceMul, Int.reduceEq, Int.reduceLT, Int.reduceLE, Int.reduceNeg, Int.reduceAdd, Int.reduceSub, Nat.reduceLT, Nat.reduceBEq, Nat.reduceSub, Nat.reducePow, hh, bs25, Nat.one_ne_zero, xq1, xb1, xq2, xb2, xq3, xb3, xq4, xb4, xq5, xb5, xq6, xb6, xq7, xb7, xq8, xb8, xq9, xb9, xq10, xb10, xq11, xb11, xq12, xb12]); first | refine zE3 ?_ | refine zE2 ?_ | refine zE4 ?_ | refine zE5 ?_ | refine zE6 ?_ | refine zE7 ?_ | refine zE8 ?_) | (refine b_s (fun hb => ?_) (fun hb => ?_) <;> ((try simp only [hn1, hn2, hn3, hn4] at hb); first | (exfalso; omega) | skip)) | (first | refine g_s (fun hb => ?_) (fun hb => ?_) | refine d_s (fun hb => ?_) (fun hb => ?_)) <;> ((try simp only [hn1, hn2] at hb); rw [hb]; try simp only [hn3, hn4] at hb)
    refine hq _ _ (by show n ≤ n + 1 + 1 + 1; omega) ⟨by show o < n + 1 + 1 + 1; omega, .inr ⟨by simp, n + 1 + 1, by omega, by show n + 1 + 1 < n + 1 + 1 + 1; omega, ?_, ?_⟩⟩ (fun m hm => ?_)
    · simp only [vop, val, argsT, upd_ap, Nat.reduceEqDiff, if_true, if_false, ite_true, ite_false, reduceIte, loadAt, loadA, AV.cells, AV.one, List.all_cons, List.all_nil, ofV, ofCell, plain, List.getElem?_cons_zero, List.getElem?_cons_succ, List.getElem?_toArray, Option.getD_some, Bool.not_true, Bool.not_false, Bool.false_eq_true, Bool.and_true, Bool.true_and, Bool.and_self, Nat.zero_add, Option.map_some, Option.bind_some, List.map_cons, List.map_nil, ev_add, ev_sub, ev_mul, ev_lss, ev_leq, ev_gtr, ev_geq, ev_eql, ev_neq, ev_seql, ev_sneq, ev_sleq, ev_slss, ev_not, ev_min, ev_max, asNat_nat, asNat_zero, asNat_one, asNat_two, asNat_three, vb_len, List.length_cons, List.length_nil, Nat.reduceAdd, Nat.reduceLeDiff, Nat.reduceMul, Int.reduceEq, Int.reduceLT, Int.reduceLE, Int.reduceNeg, Int.reduceAdd, Int.reduceSub, Nat.reduceLT, decide_true, decide_false, not_true_eq_false, not_false_eq_true, and_self, and_true, true_and, storeA, List.take_zero, List.drop_succ_cons, List.drop_zero, List.nil_append, List.append_nil, List.take_succ_cons, List.cons_append, cut_cons, cut_zero, cut_skip, tAt, hHide, hAt, upsAt, List.contains_cons, List.contains_nil, Nat.reduceBEq, Bool.or_true, Bool.true_or, Bool.or_false, Bool.false_or, Bool.or_self, Bool.and_true, Bool.true_and, Bool.and_false, Bool.false_and, beq_self_eq_true (α := Nat), Option.some_beq_some, Option.none_beq_some, Option.some_beq_none, Bool.false_eq_true, List.all_nil, touch, touchB, Nat.sub_self, List.range'_zero, Nat.add_sub_cancel_left, List.range'_one, bs25, xq1, xb1, xq2, xb2, xq3, xb3, xq4, xb4, xq5, xb5, xq6, xb6, xq7, xb7, xq8, xb8, xq9, xb9, xq10, xb10, xq11, xb11, xq12, xb12]
    · simp only [vop, val, argsT, upd_ap, Nat.reduceEqDiff, if_true, if_false, ite_true, ite_false, reduceIte, loadAt, loadA, AV.cells, AV.one, List.all_cons, List.all_nil, ofV, ofCell, plain, List.getElem?_cons_zero, List.getElem?_cons_succ, List.getElem?_toArray, Option.getD_some, Bool.not_true, Bool.not_false, Bool.false_eq_true, Bool.and_true, Bool.true_and, Bool.and_self, Nat.zero_add, Option.map_some, Option.bind_some, List.map_cons, List.map_nil, ev_add, ev_sub, ev_mul, ev_lss, ev_leq, ev_gtr, ev_geq, ev_eql, ev_neq, ev_seql, ev_sneq, ev_sleq, ev_slss, ev_not, ev_min, ev_max, asNat_nat, asNat_zero, asNat_one, asNat_two, asNat_three, vb_len, List.length_cons, List.length_nil, Nat.reduceAdd, Nat.reduceLeDiff, Nat.reduceMul, Int.reduceEq, Int.reduceLT, Int.reduceLE, Int.reduceNeg, Int.reduceAdd, Int.reduceSub, Nat.reduceLT, decide_true, decide_false, not_true_eq_false, not_false_eq_true, and_self, and_true, true_and, storeA, List.take_zero, List.drop_succ_cons, List.drop_zero, List.nil_append, List.append_nil, List.take_succ_cons, List.cons_append, cut_cons, cut_zero, cut_skip, tAt, hHide, hAt, upsAt, List.contains_cons, List.contains_nil, Nat.reduceBEq, Bool.or_true, Bool.true_or, Bool.or_false, Bool.false_or, Bool.or_self, Bool.and_true, Bool.true_and, Bool.and_false, Bool.false_and, beq_self_eq_true (α := Nat), Option.some_beq_some, Option.none_beq_some, Option.some_beq_none, Bool.false_eq_true, List.all_nil, touch, touchB, Nat.sub_self, List.range'_zero, Nat.add_sub_cancel_left, List.range'_one, bs25, xq1, xb1, xq2, xb2, xq3, xb3, xq4, xb4, xq5, xb5, xq6, xb6, xq7, xb7, xq8, xb8, xq9, xb9, xq10, xb10, xq11, xb11, xq12, xb12, encs, enc]
    · have e1 : ¬ m = o := by omega
      have e2 : ¬ m = n := by omega
      have e3 : ¬ m = n + 1 := by omega
      have e4 : ¬ m = n + 1 + 1 := by omega
      simp only [vop, val, argsT, upd_ap, Nat.reduceEqDiff, if_true, if_false, ite_true, ite_false, reduceIte, loadAt, loadA, AV.cells, AV.one, List.all_cons, List.all_nil, ofV, ofCell, plain, List.getElem?_cons_zero, List.getElem?_cons_succ, List.getElem?_toArray, Option.getD_some, Bool.not_true, Bool.not_false, Bool.false_eq_true, Bool.and_true, Bool.true_and, Bool.and_self, Nat.zero_add, Option.map_some, Option.bind_some, List.map_cons, List.map_nil, ev_add, ev_sub, ev_mul, ev_lss, ev_leq, ev_gtr, ev_geq, ev_eql, ev_neq, ev_seql, ev_sneq, ev_sleq, ev_slss, ev_not, ev_min, ev_max, asNat_nat, asNat_zero, asNat_one, asNat_two, asNat_three, vb_len, List.length_cons, List.length_nil, Nat.reduceAdd, Nat.reduceLeDiff, Nat.reduceMul, Int.reduceEq, Int.reduceLT, Int.reduceLE, Int.reduceNeg, Int.reduceAdd, Int.reduceSub, Nat.reduceLT, decide_true, decide_false, not_true_eq_false, not_false_eq_true, and_self, and_true, true_and, storeA, List.take_zero, List.drop_succ_cons, List.drop_zero, List.nil_append, List.append_nil, List.take_succ_cons, List.cons_append, cut_cons, cut_zero, cut_skip, tAt, hHide, hAt, upsAt, List.contains_cons, List.contains_nil, Nat.reduceBEq, Bool.or_true, Bool.true_or, Bool.or_false, Bool.false_or, Bool.or_self, Bool.and_true, Bool.true_and, Bool.and_false, Bool.false_and, beq_self_eq_true (α := Nat), Option.some_beq_some, Option.none_beq_some, Option.some_beq_none, Bool.false_eq_true, List.all_nil, touch, touchB, Nat.sub_self, List.range'_zero, Nat.add_sub_cancel_left, List.range'_one, e1, e2, e3, e4]
  · have yq1 : ¬ o = b := by omega
    have yb1 : (o == b) = false := beq_false_of_ne (by omega)
    have yq2 : ¬ o = n := by omega
    have yb2 : (o == n) = false := beq_false_of_ne (by omega)
    have yq3 : ¬ o = (n + 1) := by omega
    have yb3 : (o == (n + 1)) = false := beq_false_of_ne (by omega)
    have yq4 : ¬ o = (n + 1 + 1) := by omega
    have yb4 : (o == (n + 1 + 1)) = false := beq_false_of_ne (by omega)
    have yq5 : ¬ b = o := by omega
    have yb5 : (b == o) = false := beq_false_of_ne (by omega)
    have yq6 : ¬ b = n := by omega
    have yb6 : (b == n) = false := beq_false_of_ne (by omega)
    have yq7 : ¬ b = (n + 1) := by omega
    have yb7 : (b == (n + 1)) = false := beq_false_of_ne (by omega)
    have yq8 : ¬ b = (n + 1 + 1) := by omega
    have yb8 : (b == (n + 1 + 1)) = false := beq_false_of_ne (by omega)
    have yq9 : ¬ n = o := by omega
    have yb9 : (n == o) = false := beq_false_of_ne (by omega)
    have yq10 : ¬ n = b := by omega
    have yb10 : (n == b) = false := beq_false_of_ne (by omega)
    have yq11 : ¬ n = (n + 1) := by omega
    have yb11 : (n == (n + 1)) = false := beq_false_of_ne (by omega)
    have yq12 : ¬ n = (n + 1 + 1) := by omega
    have yb12 : (n == (n + 1 + 1)) = false := beq_false_of_ne (by omega)
    have yq13 : ¬ (n + 1) = o := by omega
    have yb13 : ((n + 1) == o) = false := beq_false_of_ne (by omega)
    have yq14 : ¬ (n + 1) = b := by omega
    have yb14 : ((n + 1) == b) = false := beq_false_of_ne (by omega)
    have yq15 : ¬ (n + 1) = n := by omega
    have yb15 : ((n + 1) == n) = false := beq_false_of_ne (by omega)
    have yq16 : ¬ (n + 1) = (n + 1 + 1) := by omega
    have yb16 : ((n + 1) == (n + 1 + 1)) = false := beq_false_of_ne (by omega)
    have yq17 : ¬ (n + 1 + 1) = o := by omega
    have yb17 : ((n + 1 + 1) == o) = false := beq_false_of_ne (by omega)
    have yq18 : ¬ (n + 1 + 1) = b := by omega
    have yb18 : ((n + 1 + 1) == b) = false := beq_false_of_ne (by omega)
    have yq19 : ¬ (n + 1 + 1) = n := by omega
    have yb19 : ((n + 1 + 1) == n) = false := beq_false_of_ne (by omega)
    have yq20 : ¬ (n + 1 + 1) = (n + 1) := by omega
    have yb20 : ((n + 1 + 1) == (n + 1)) = false := beq_false_of_ne (by omega)
    have hcut0 : cut (encs acc) 0 (acc.length * 7) = encs acc := by
      simp only [cut, List.drop_zero]
      rw [List.take_of_length_le (by rw [encs_len]; exact Nat.le_refl _)]
    have hl0 : acc.length * 7 ≤ (encs acc).length := by rw [encs_len]; exact Nat.le_refl _
    have hl1 : (acc.length + 1) * 112 ≤ 140737488355328 := by omega
    have hl2 : acc.length + 1 ≤ 140737488355328 := by omega
    have hlt : acc.length < acc.length + 1 := by omega
    have hle : acc.length * 7 + 7 ≤ (encs acc ++ ([.sc (.int .i64 0), .sc (.bool false), .nilS, .sc (.int .i64 0), .sc (.string { data := #[] }), .nilS, .nilS] : List AV)).length := by rw [List.length_append, encs_len]; simp
    have hst : (encs acc ++ ([.sc (.int .i64 0), .sc (.bool false), .nilS, .sc (.int .i64 0), .sc (.string { data := #[] }), .nilS, .nilS] : List AV)).take (acc.length * 7) ++ [.sc (.int .i64 k), .sc (.bool ng), .psl (u32s cf) cf.length, .sc (.int .i64 ex), .sc (.string t), .psl (encs l) l.length, .psl (strs ks) ks.length] ++ (encs acc ++ ([.sc (.int .i64 0), .sc (.bool false), .nilS, .sc (.int .i64 0), .sc (.string { data := #[] }), .nilS, .nilS] : List AV)).drop (acc.length * 7 + 7) = encs (acc ++ [.mk k ng cf ex t l ks]) := by
      rw [← encs_len acc, List.take_left, ← List.drop_drop, List.drop_left, encs_app]
      simp [encs, enc]
    refine Gf_enter (C := Cf G) Tryz.func46 rfl ok46 (Nat.le_of_ble_eq_true rfl) ?_
    simp only [Tryz.f46, Option.getD_some]
    simp only [enc]
    repeat' first | refine w_op rfl rfl ?_ | refine x_p rfl ?_ | refine w_sr ?_ | refine st_nil ?_ | refine w_seq ?_ | refine st_region ?_ | refine st_block ?_ | refine w_cond ?_ | refine b_t ?_ | refine b_f ?_ | refine st_skip ?_ | refine st_exit ?_ | refine st_ret ?_ | refine st_onNormN ?_ | refine st_onNormE ?_ | refine st_onNormR ?_ | refine st_onExitN ?_ | refine st_onExitR ?_ | refine st_onExitS ?_ | refine st_onExitO (by decide) ?_ | refine g_t ?_ | refine g_f rfl ?_ | refine o_op rfl ?_ | refine w_wr ?_ | refine w_wn ?_ | refine d_c rfl ?_ | refine d_on rfl ?_ | refine d_op rfl ?_ | refine d_y ?_ | refine d_gd rfl ?_ | refine d_t ?_ | refine d_f ?_ | refine d_nil ?_ | refine w_u true ?_ | refine w_dg rfl ?_ | refine d_mid ?_ | refine d_mj ?_ | refine d_e ?_ | refine w_gd rfl ?_ | ((first | refine zE1 ?_); (conv => arg 1; try simp only [go_sem, Nat.reduceEqDiff, reduceIte, Nat.reduceAdd, Nat.reduceLeDiff, Nat.reduceMul, Int.reduceEq, Int.reduceLT, Int.reduceLE, Int.reduceNeg, Int.reduceAdd, Int.reduceSub, Nat.reduceLT, Nat.reduceBEq, Nat.reduceSub, Nat.reducePow, hh, hhb, bs25, Nat.one_ne_zero, hcut0, hl0, hl1, hl2, hlt, hle, hst, yq1, yb1, yq2, yb2, yq3, yb3, yq4, yb4, yq5, yb5, yq6, yb6, yq7, yb7, yq8, yb8, yq9, yb9, yq10, yb10, yq11, yb11, yq12, yb12, yq13, yb13, yq14, yb14, yq15, yb15, yq16, yb16, yq17, yb17, yq18, yb18, yq19, yb19, yq20, yb20]); first | refine zE3 ?_ | refine zE2 ?_ | refine zE4 ?_ | refine zE5 ?_ | refine zE6 ?_ | refine zE7 ?_ | refine zE8 ?_) | (refine b_s (fun hb => ?_) (fun hb => ?_) <;> ((try simp only [hn1, hn2, hn3, hn4] at hb); first | (exfalso; omega) | skip)) | (first | refine g_s (fun hb => ?_) (fun hb => ?_) | refine d_s (fun hb => ?_) (fun hb => ?_)) <;> ((try simp only [hn1, hn2] at hb); rw [hb]; try simp only [hn3, hn4] at hb)
    have hlen : (acc ++ [JV.mk k ng cf ex t l ks]).length = acc.length + 1 := by simp
    have hdd : decide (((acc.length + 1 : Nat) : Int) ≤ 4096) = decide ((acc ++ [JV.mk k ng cf ex t l ks]).length ≤ 4096) := by
      rw [decide_eq_decide, hlen]
      omega
    simp only [one1]
    rw [hdd]
    refine hq _ _ (by show n ≤ n + 1 + 1 + 1; omega) ⟨by show o < n + 1 + 1 + 1; omega, .inr ⟨by simp, n + 1 + 1, by omega, by show n + 1 + 1 < n + 1 + 1 + 1; omega, ?_, ?_⟩⟩ (fun m hm => ?_)
    · simp only [vop, val, argsT, upd_ap, Nat.reduceEqDiff, if_true, if_false, ite_true, ite_false, reduceIte, loadAt, loadA, AV.cells, AV.one, List.all_cons, List.all_nil, ofV, ofCell, plain, List.getElem?_cons_zero, List.getElem?_cons_succ, List.getElem?_toArray, Option.getD_some, Bool.not_true, Bool.not_false, Bool.false_eq_true, Bool.and_true, Bool.true_and, Bool.and_self, Nat.zero_add, Option.map_some, Option.bind_some, List.map_cons, List.map_nil, ev_add, ev_sub, ev_mul, ev_lss, ev_leq, ev_gtr, ev_geq, ev_eql, ev_neq, ev_seql, ev_sneq, ev_sleq, ev_slss, ev_not, ev_min, ev_max, asNat_nat, asNat_zero, asNat_one, asNat_two, asNat_three, vb_len, List.length_cons, List.length_nil, Nat.reduceAdd, Nat.reduceLeDiff, Nat.reduceMul, Int.reduceEq, Int.reduceLT, Int.reduceLE, Int.reduceNeg, Int.reduceAdd, Int.reduceSub, Nat.reduceLT, decide_true, decide_false, not_true_eq_false, not_false_eq_true, and_self, and_true, true_and, storeA, List.take_zero, List.drop_succ_cons, List.drop_zero, List.nil_append, List.append_nil, List.take_succ_cons, List.cons_append, cut_cons, cut_zero, cut_skip, tAt, hHide, hAt, upsAt, List.contains_cons, List.contains_nil, Nat.reduceBEq, Bool.or_true, Bool.true_or, Bool.or_false, Bool.false_or, Bool.or_self, Bool.and_true, Bool.true_and, Bool.and_false, Bool.false_and, beq_self_eq_true (α := Nat), Option.some_beq_some, Option.none_beq_some, Option.some_beq_none, Bool.false_eq_true, List.all_nil, touch, touchB, Nat.sub_self, List.range'_zero, Nat.add_sub_cancel_left, List.range'_one, hlen, yq1, yb1, yq2, yb2, yq3, yb3, yq4, yb4, yq5, yb5, yq6, yb6, yq7, yb7, yq8, yb8, yq9, yb9, yq10, yb10, yq11, yb11, yq12, yb12, yq13, yb13, yq14, yb14, yq15, yb15, yq16, yb16, yq17, yb17, yq18, yb18, yq19, yb19, yq20, yb20]
    · simp only [vop, val, argsT, upd_ap, Nat.reduceEqDiff, if_true, if_false, ite_true, ite_false, reduceIte, loadAt, loadA, AV.cells, AV.one, List.all_cons, List.all_nil, ofV, ofCell, plain, List.getElem?_cons_zero, List.getElem?_cons_succ, List.getElem?_toArray, Option.getD_some, Bool.not_true, Bool.not_false, Bool.false_eq_true, Bool.and_true, Bool.true_and, Bool.and_self, Nat.zero_add, Option.map_some, Option.bind_some, List.map_cons, List.map_nil, ev_add, ev_sub, ev_mul, ev_lss, ev_leq, ev_gtr, ev_geq, ev_eql, ev_neq, ev_seql, ev_sneq, ev_sleq, ev_slss, ev_not, ev_min, ev_max, asNat_nat, asNat_zero, asNat_one, asNat_two, asNat_three, vb_len, List.length_cons, List.length_nil, Nat.reduceAdd, Nat.reduceLeDiff, Nat.reduceMul, Int.reduceEq, Int.reduceLT, Int.reduceLE, Int.reduceNeg, Int.reduceAdd, Int.reduceSub, Nat.reduceLT, decide_true, decide_false, not_true_eq_false, not_false_eq_true, and_self, and_true, true_and, storeA, List.take_zero, List.drop_succ_cons, List.drop_zero, List.nil_append, List.append_nil, List.take_succ_cons, List.cons_append, cut_cons, cut_zero, cut_skip, tAt, hHide, hAt, upsAt, List.contains_cons, List.contains_nil, Nat.reduceBEq, Bool.or_true, Bool.true_or, Bool.or_false, Bool.false_or, Bool.or_self, Bool.and_true, Bool.true_and, Bool.and_false, Bool.false_and, beq_self_eq_true (α := Nat), Option.some_beq_some, Option.none_beq_some, Option.some_beq_none, Bool.false_eq_true, List.all_nil, touch, touchB, Nat.sub_self, List.range'_zero, Nat.add_sub_cancel_left, List.range'_one, hst, yq1, yb1, yq2, yb2, yq3, yb3, yq4, yb4, yq5, yb5, yq6, yb6, yq7, yb7, yq8, yb8, yq9, yb9, yq10, yb10, yq11, yb11, yq12, yb12, yq13, yb13, yq14, yb14, yq15, yb15, yq16, yb16, yq17, yb17, yq18, yb18, yq19, yb19, yq20, yb20]
    · have e1 : ¬ m = o := by omega
      have e2 : ¬ m = n := by omega
      have e3 : ¬ m = n + 1 := by omega
      have e4 : ¬ m = n + 1 + 1 := by omega
      have e5 : ¬ m = b := by omega
      simp only [vop, val, argsT, upd_ap, Nat.reduceEqDiff, if_true, if_false, ite_true, ite_false, reduceIte, loadAt, loadA, AV.cells, AV.one, List.all_cons, List.all_nil, ofV, ofCell, plain, List.getElem?_cons_zero, List.getElem?_cons_succ, List.getElem?_toArray, Option.getD_some, Bool.not_true, Bool.not_false, Bool.false_eq_true, Bool.and_true, Bool.true_and, Bool.and_self, Nat.zero_add, Option.map_some, Option.bind_some, List.map_cons, List.map_nil, ev_add, ev_sub, ev_mul, ev_lss, ev_leq, ev_gtr, ev_geq, ev_eql, ev_neq, ev_seql, ev_sneq, ev_sleq, ev_slss, ev_not, ev_min, ev_max, asNat_nat, asNat_zero, asNat_one, asNat_two, asNat_three, vb_len, List.length_cons, List.length_nil, Nat.reduceAdd, Nat.reduceLeDiff, Nat.reduceMul, Int.reduceEq, Int.reduceLT, Int.reduceLE, Int.reduceNeg, Int.reduceAdd, Int.reduceSub, Nat.reduceLT, decide_true, decide_false, not_true_eq_false, not_false_eq_true, and_self, and_true, true_and, storeA, List.take_zero, List.drop_succ_cons, List.drop_zero, List.nil_append, List.append_nil, List.take_succ_cons, List.cons_append, cut_cons, cut_zero, cut_skip, tAt, hHide, hAt, upsAt, List.contains_cons, List.contains_nil, Nat.reduceBEq, Bool.or_true, Bool.true_or, Bool.or_false, Bool.false_or, Bool.or_self, Bool.and_true, Bool.true_and, Bool.and_false, Bool.false_and, beq_self_eq_true (α := Nat), Option.some_beq_some, Option.none_beq_some, Option.some_beq_none, Bool.false_eq_true, List.all_nil, touch, touchB, Nat.sub_self, List.range'_zero, Nat.add_sub_cancel_left, List.range'_one, e1, e2, e3, e4, e5]
end Go.Proofs.Bv
/-
  kinds.flat, kinds.Flatten.
  Conditions: none.
-/
namespace Go.Proofs.Bv
open Go
theorem ok45 : codeOk 34 (Tryz.f45.body.getD .skip) = true := by kernel_rfl
theorem ok12 : codeOk 34 (Tryz.f12.body.getD .skip) = true := by kernel_rfl
mutual
/-- A value more, or a list's. -/
def flV : JV → Nat → List JV → List JV × Bool
  | .mk k ng cf ex t l ks, d, acc => if k = 5 ∧ 0 < d then flL l (d - 1) acc else (acc ++ [.mk k ng cf ex t l ks], decide ((acc ++ [JV.mk k ng cf ex t l ks]).length ≤ 4096))
/-- A list's values, down to a depth, as long as they are taken. -/
def flL : List JV → Nat → List JV → List JV × Bool
  | [], _, acc => (acc, true)
  | x :: r, d, acc => if (flV x d acc).2 = true then flL r d (flV x d acc).1 else ((flV x d acc).1, false)
end
theorem OutH.mono {h h' : Heap} {n n' o : Nat} {acc : List JV} (ho : OutH h n o acc) (hn : n ≤ n') (hh : ∀ m, m < n → h' m = h m) : OutH h' n' o acc := by
  obtain ⟨h1, h2⟩ := ho
  refine ⟨by omega, ?_⟩
  rcases h2 with ⟨e, h2⟩ | ⟨e, b, hb1, hb2, h2, h3⟩
  · exact .inl ⟨e, by rw [hh o h1]; exact h2⟩
  · exact .inr ⟨e, b, hb1, by omega, by rw [hh o h1]; exact h2, by rw [hh b hb2]; exact h3⟩
mutual
theorem flV_len : (v : JV) → (d : Nat) → (acc : List JV) → (flV v d acc).2 = true → acc.length ≤ 4096 → (flV v d acc).1.length ≤ 4096
  | .mk k ng cf ex t l ks, d, acc => by
    intro h1 h2
    simp only [flV] at h1 ⊢
    split
    · rename_i hc
      rw [if_pos hc] at h1
      exact flL_len l (d - 1) acc h1 h2
    · rename_i hc
      rw [if_neg hc] at h1
      simpa using h1
theorem flL_len : (l : List JV) → (d : Nat) → (acc : List JV) → (flL l d acc).2 = true → acc.length ≤ 4096 → (flL l d acc).1.length ≤ 4096
  | [], d, acc => by
    intro _ h2
    simpa [flL] using h2
  | x :: r, d, acc => by
    intro h1 h2
    simp only [flL] at h1 ⊢
    split
    · rename_i hc
      rw [if_pos hc] at h1
      exact flL_len r d _ h1 (flV_len x d acc hc h2)
    · rename_i hc
      rw [if_neg hc] at h1
      cases h1
end
set_option maxHeartbeats 4000000 in
set_option maxRecDepth 100000 in
theorem gf45 (G : Nat → Option (List AV)) (o : Nat) (l : List JV) (hfs : Fits l) (hnl : l.length * 112 ≤ 140737488355328) (d : Nat) (acc : List JV) (h : Heap) (n : Nat) (Q : AV → Heap → Nat → Prop) (hd : d ≤ 1000000) (hacc : acc.length ≤ 4096) (ho : OutH h n o acc)
    (hq : ∀ h' n', n ≤ n' → OutH h' n' o (flL l d acc).1 → (∀ m, m < o → h' m = h m) → Q (.sc (.bool (flL l d acc).2)) h' n') : Gf (Cf G) 45 [.psl (encs l) l.length, .sc (.int .i64 d), .fn (.func 46) [.ptr o 0]] h n Q := by
  have ih : ∀ x ∈ l, Fits x.list → x.list.length * 112 ≤ 140737488355328 → ∀ (d : Nat) (acc : List JV) (h : Heap) (n : Nat) (Q : AV → Heap → Nat → Prop), d ≤ 1000000 → acc.length ≤ 4096 → OutH h n o acc →
    (∀ h' n', n ≤ n' → OutH h' n' o (flL x.list d acc).1 → (∀ m, m < o → h' m = h m) → Q (.sc (.bool (flL x.list d acc).2)) h' n') → Gf (Cf G) 45 [.psl (encs x.list) x.list.length, .sc (.int .i64 d), .fn (.func 46) [.ptr o 0]] h n Q := fun x hx h1 h2 => gf45 G o x.list h1 h2
  refine Gf_enter (C := Cf G) Tryz.func45 rfl ok45 (Nat.le_of_ble_eq_true rfl) ?_
  simp only [Tryz.f45, Option.getD_some]
  repeat' first | refine w_op rfl rfl ?_ | refine x_p rfl ?_ | refine w_sr ?_ | refine st_nil ?_ | refine w_seq ?_ | refine st_region ?_ | refine st_block ?_ | refine w_cond ?_ | refine b_t ?_ | refine b_f ?_ | refine st_skip ?_ | refine st_exit ?_ | refine st_ret ?_ | refine st_onNormN ?_ | refine st_onNormE ?_ | refine st_onNormR ?_ | refine st_onExitN ?_ | refine st_onExitR ?_ | refine st_onExitS ?_ | refine st_onExitO (by decide) ?_ | refine g_t ?_ | refine g_f rfl ?_ | refine o_op rfl ?_ | refine w_wr ?_ | refine w_wn ?_ | refine d_c rfl ?_ | refine d_on rfl ?_ | refine d_op rfl ?_ | refine d_y ?_ | refine d_gd rfl ?_ | refine d_t ?_ | refine d_f ?_ | refine d_nil ?_ | refine w_u false ?_ | refine w_dr rfl ?_ | refine d_q ?_ | refine w_gd rfl ?_ | ((first | refine zE1 ?_); (conv => arg 1; try simp only [go_sem, Nat.reduceEqDiff, reduceIte, Nat.reduceAdd, Nat.reduceLeDiff, Nat.reduceMul, Int.reduceEq, Int.reduceLT, Int.reduceLE, Int.reduceNeg, Int.reduceAdd, Int.reduceSub, Nat.reduceLT, Nat.reduceBEq, Nat.reduceSub, Nat.reducePow]); first | refine zE3 ?_ | refine zE2 ?_ | refine zE4 ?_ | refine zE5 ?_ | refine zE6 ?_ | refine zE7 ?_ | refine zE8 ?_) | (refine b_s (fun hb => ?_) (fun hb => ?_) <;> ((try simp only [hn1, hn2, hn3, hn4] at hb); first | (exfalso; omega) | skip)) | (first | refine g_s (fun hb => ?_) (fun hb => ?_) | refine d_s (fun hb => ?_) (fun hb => ?_)) <;> ((try simp only [hn1, hn2] at hb); rw [hb]; try simp only [hn3, hn4] at hb)
  refine Gc_loop_inv (fun m st => ∃ dn r acc', l = dn ++ r ∧ m = r.length ∧ flL r d acc' = flL l d acc ∧ acc'.length ≤ 4096 ∧ n ≤ st.n ∧ (∀ m, m < o → st.h m = h m) ∧ OutH st.h st.n o acc' ∧
    st.T 1 = .sc (.int .i64 d) ∧ st.T 2 = .fn (.func 46) [.ptr o 0] ∧ st.T 9 = .psl (encs l) l.length ∧ st.T 10 = .sc (.int .i64 l.length) ∧ st.T 11 = .sc (.int .i64 dn.length)) ?_ l.length _ ⟨[], l, acc, by simp, by simp, by simp, hacc, Nat.le_refl _, by simp, ho, ?_⟩
  · rintro m ⟨T, h', n'⟩ ⟨dn, r, acc', hdr, rfl, hfl, hacc', hn', hfr, ho', h1, h2, h9, h10, h11⟩
    simp only at hn' hfr ho' h1 h2 h9 h10 h11
    cases r with
    | nil =>
      have e : dn = l := by simp [hdr]
      have hge : ¬ (dn.length : Int) < (l.length : Int) := by rw [e]; omega
      repeat' first | refine w_op rfl rfl ?_ | refine x_p rfl ?_ | refine w_sr ?_ | refine st_nil ?_ | refine w_seq ?_ | refine st_region ?_ | refine st_block ?_ | refine w_cond ?_ | refine b_t ?_ | refine b_f ?_ | refine st_skip ?_ | refine st_exit ?_ | refine st_ret ?_ | refine st_onNormN ?_ | refine st_onNormE ?_ | refine st_onNormR ?_ | refine st_onExitN ?_ | refine st_onExitR ?_ | refine st_onExitS ?_ | refine st_onExitO (by decide) ?_ | refine g_t ?_ | refine g_f rfl ?_ | refine o_op rfl ?_ | refine w_wr ?_ | refine w_wn ?_ | refine d_c rfl ?_ | refine d_on rfl ?_ | refine d_op rfl ?_ | refine d_y ?_ | refine d_gd rfl ?_ | refine d_t ?_ | refine d_f ?_ | refine d_nil ?_ | refine w_u false ?_ | refine w_dr rfl ?_ | refine d_q ?_ | refine w_gd rfl ?_ | ((first | refine zE1 ?_); (conv => arg 1; try simp only [go_sem, Nat.reduceEqDiff, reduceIte, Nat.reduceAdd, Nat.reduceLeDiff, Nat.reduceMul, Int.reduceEq, Int.reduceLT, Int.reduceLE, Int.reduceNeg, Int.reduceAdd, Int.reduceSub, Nat.reduceLT, Nat.reduceBEq, Nat.reduceSub, Nat.reducePow, h1, h2, h9, h10, h11, hge]); first | refine zE3 ?_ | refine zE2 ?_ | refine zE4 ?_ | refine zE5 ?_ | refine zE6 ?_ | refine zE7 ?_ | refine zE8 ?_) | (refine b_s (fun hb => ?_) (fun hb => ?_) <;> ((try simp only [hn1, hn2, hn3, hn4] at hb); first | (exfalso; omega) | skip)) | (first | refine g_s (fun hb => ?_) (fun hb => ?_) | refine d_s (fun hb => ?_) (fun hb => ?_)) <;> ((try simp only [hn1, hn2] at hb); rw [hb]; try simp only [hn3, hn4] at hb)
      have hfl' : flL l d acc = (acc', true) := by rw [← hfl]; rfl
      have := hq h' n' hn' (by rw [hfl']; exact ho') hfr
      rw [hfl'] at this
      exact this
    | cons x r =>
      have hlt : (dn.length : Int) < (l.length : Int) := by rw [hdr]; simp; omega
      have hltn : dn.length < l.length := by omega
      have hcut : cut (encs l) (dn.length * 7) 7 = enc x := by rw [hdr]; exact cut_encs dn x r
      have hle : dn.length * 7 + 7 ≤ (encs l).length := by rw [encs_len]; omega
      have hmem : x ∈ l := by rw [hdr]; simp
      have hfx := Fits_mem hfs x hmem
      have w1 : IntKind.i64.wrap ((dn.length : Int) + 1) = (dn.length : Int) + 1 := i64 (by omega) (by omega)
      have ihx := ih x hmem
      have hon : o < n' := ho'.1
      obtain ⟨kk, ng, cf, ex, t, l', ks⟩ := x
      simp only [JV.list] at ihx
      simp only [enc] at hcut
      have ho2 := ho'.mono (h' := upd (upd h' n' (some (.cells [.sc (.int .i64 0), .sc (.bool false), .nilS, .sc (.int .i64 0), .sc (.string ByteArray.empty), .nilS, .nilS] 0 false))) n' (some (.cells (enc (.mk kk ng cf ex t l' ks)) 0 false))) (n' := n' + 1) (by omega) (fun m hm => by rw [upd_ne _ _ (by omega), upd_ne _ _ (by omega)])
      by_cases hk : kk = 5
      · by_cases hdz : 0 < d
        · have hdz' : (0 : Int) < (d : Int) := by omega
          have wd : IntKind.i64.wrap ((d : Int) - 1) = ((d - 1 : Nat) : Int) := by rw [i64 (by omega) (by omega)]; omega
          subst hk
          repeat' first | refine w_op rfl rfl ?_ | refine x_p rfl ?_ | refine w_sr ?_ | refine st_nil ?_ | refine w_seq ?_ | refine st_region ?_ | refine st_block ?_ | refine w_cond ?_ | refine b_t ?_ | refine b_f ?_ | refine st_skip ?_ | refine st_exit ?_ | refine st_ret ?_ | refine st_onNormN ?_ | refine st_onNormE ?_ | refine st_onNormR ?_ | refine st_onExitN ?_ | refine st_onExitR ?_ | refine st_onExitS ?_ | refine st_onExitO (by decide) ?_ | refine g_t ?_ | refine g_f rfl ?_ | refine o_op rfl ?_ | refine w_wr ?_ | refine w_wn ?_ | refine d_c rfl ?_ | refine d_on rfl ?_ | refine d_op rfl ?_ | refine d_y ?_ | refine d_gd rfl ?_ | refine d_t ?_ | refine d_f ?_ | refine d_nil ?_ | refine w_u false ?_ | refine w_dr rfl ?_ | refine d_q ?_ | refine w_gd rfl ?_ | ((first | refine zE1 ?_); (conv => arg 1; try simp only [go_sem, Nat.reduceEqDiff, reduceIte, Nat.reduceAdd, Nat.reduceLeDiff, Nat.reduceMul, Int.reduceEq, Int.reduceLT, Int.reduceLE, Int.reduceNeg, Int.reduceAdd, Int.reduceSub, Nat.reduceLT, Nat.reduceBEq, Nat.reduceSub, Nat.reducePow, h1, h2, h9, h10, h11, hlt, hltn, hcut, hle, hdz', wd]); first | refine zE3 ?_ | refine zE2 ?_ | refine zE4 ?_ | refine zE5 ?_ | refine zE6 ?_ | refine zE7 ?_ | refine zE8 ?_) | (refine b_s (fun hb => ?_) (fun hb => ?_) <;> ((try simp only [hn1, hn2, hn3, hn4] at hb); first | (exfalso; omega) | skip)) | (first | refine g_s (fun hb => ?_) (fun hb => ?_) | refine d_s (fun hb => ?_) (fun hb => ?_)) <;> ((try simp only [hn1, hn2] at hb); rw [hb]; try simp only [hn3, hn4] at hb)
          refine st_walk rfl rfl rfl (by simp only [vop, val, argsT, upd_ap, Nat.reduceEqDiff, if_true, if_false, ite_true, ite_false, reduceIte, loadAt, loadA, AV.cells, AV.one, List.all_cons, List.all_nil, ofV, ofCell, plain, List.getElem?_cons_zero, List.getElem?_cons_succ, List.getElem?_toArray, Option.getD_some, Bool.not_true, Bool.not_false, Bool.false_eq_true, Bool.and_true, Bool.true_and, Bool.and_self, Nat.zero_add, Option.map_some, Option.bind_some, List.map_cons, List.map_nil, ev_add, ev_sub, ev_mul, ev_lss, ev_leq, ev_gtr, ev_geq, ev_eql, ev_neq, ev_seql, ev_sneq, ev_sleq, ev_slss, ev_not, ev_min, ev_max, asNat_nat, asNat_zero, asNat_one, asNat_two, asNat_three, vb_len, List.length_cons, List.length_nil, Nat.reduceAdd, Nat.reduceLeDiff, Nat.reduceMul, Int.reduceEq, Int.reduceLT, Int.reduceLE, Int.reduceNeg, Int.reduceAdd, Int.reduceSub, Nat.reduceLT, decide_true, decide_false, not_true_eq_false, not_false_eq_true, and_self, and_true, true_and, storeA, List.take_zero, List.drop_succ_cons, List.drop_zero, List.nil_append, List.append_nil, List.take_succ_cons, List.cons_append, cut_cons, cut_zero, cut_skip, tAt, hHide, hAt, upsAt, List.contains_cons, List.contains_nil, Nat.reduceBEq, Bool.or_true, Bool.true_or, Bool.or_false, Bool.false_or, Bool.or_self, Bool.and_true, Bool.true_and, Bool.and_false, Bool.false_and, beq_self_eq_true (α := Nat), Option.some_beq_some, Option.none_beq_some, Option.some_beq_none, Bool.false_eq_true, List.all_nil, touch, touchB, Nat.sub_self, List.range'_zero, Nat.add_sub_cancel_left, List.range'_one, h2]; with_reducible rfl) rfl rfl ?_
          refine ihx hfx.2 hfx.1.nlist (d - 1) acc' _ _ _ (by omega) hacc' ho2 (fun hA nA hn2 ho3 hfr3 => st_gn hn2 rfl ?_)
          have hfv : flV (.mk 5 ng cf ex t l' ks) d acc' = flL l' (d - 1) acc' := by simp only [flV]; rw [if_pos ⟨trivial, hdz⟩]
          have hfl2 : flL l d acc = if (flL l' (d - 1) acc').2 = true then flL r d (flL l' (d - 1) acc').1 else ((flL l' (d - 1) acc').1, false) := by
            rw [← hfl, flL, hfv]
          have hfr4 : ∀ m, m < o → hA m = h m := fun m hm => by
            rw [hfr3 m hm, upd_ne _ _ (by omega), upd_ne _ _ (by omega), hfr m hm]
          have hlen := flL_len l' (d - 1) acc'
          generalize flL l' (d - 1) acc' = fr at *
          obtain ⟨acc2, ok⟩ := fr
          simp only at hfl2 hlen ho3
          cases ok with
          | true =>
            rw [if_pos rfl] at hfl2
            repeat' first | refine w_op rfl rfl ?_ | refine x_p rfl ?_ | refine w_sr ?_ | refine st_nil ?_ | refine w_seq ?_ | refine st_region ?_ | refine st_block ?_ | refine w_cond ?_ | refine b_t ?_ | refine b_f ?_ | refine st_skip ?_ | refine st_exit ?_ | refine st_ret ?_ | refine st_onNormN ?_ | refine st_onNormE ?_ | refine st_onNormR ?_ | refine st_onExitN ?_ | refine st_onExitR ?_ | refine st_onExitS ?_ | refine st_onExitO (by decide) ?_ | refine g_t ?_ | refine g_f rfl ?_ | refine o_op rfl ?_ | refine w_wr ?_ | refine w_wn ?_ | refine d_c rfl ?_ | refine d_on rfl ?_ | refine d_op rfl ?_ | refine d_y ?_ | refine d_gd rfl ?_ | refine d_t ?_ | refine d_f ?_ | refine d_nil ?_ | refine w_u false ?_ | refine w_dr rfl ?_ | refine d_q ?_ | refine w_gd rfl ?_ | ((first | refine zE1 ?_); (conv => arg 1; try simp only [go_sem, Nat.reduceEqDiff, reduceIte, Nat.reduceAdd, Nat.reduceLeDiff, Nat.reduceMul, Int.reduceEq, Int.reduceLT, Int.reduceLE, Int.reduceNeg, Int.reduceAdd, Int.reduceSub, Nat.reduceLT, Nat.reduceBEq, Nat.reduceSub, Nat.reducePow, h1, h2, h9, h10, h11, w1]); first | refine zE3 ?_ | refine zE2 ?_ | refine zE4 ?_ | refine zE5 ?_ | refine zE6 ?_ | refine zE7 ?_ | refine zE8 ?_) | (refine b_s (fun hb => ?_) (fun hb => ?_) <;> ((try simp only [hn1, hn2, hn3, hn4] at hb); first | (exfalso; omega) | skip)) | (first | refine g_s (fun hb => ?_) (fun hb => ?_) | refine d_s (fun hb => ?_) (fun hb => ?_)) <;> ((try simp only [hn1, hn2] at hb); rw [hb]; try simp only [hn3, hn4] at hb)
            refine ⟨r.length, by simp, dn ++ [.mk 5 ng cf ex t l' ks], r, acc2, by simp [hdr], rfl, hfl2.symm, hlen rfl hacc', by show n ≤ nA; omega, hfr4, ho3, ?_, ?_, ?_, ?_, ?_⟩
            all_goals simp [upd_ap, h1, h2, h9, h10]
          | false =>
            rw [if_neg (by decide)] at hfl2
            repeat' first | refine w_op rfl rfl ?_ | refine x_p rfl ?_ | refine w_sr ?_ | refine st_nil ?_ | refine w_seq ?_ | refine st_region ?_ | refine st_block ?_ | refine w_cond ?_ | refine b_t ?_ | refine b_f ?_ | refine st_skip ?_ | refine st_exit ?_ | refine st_ret ?_ | refine st_onNormN ?_ | refine st_onNormE ?_ | refine st_onNormR ?_ | refine st_onExitN ?_ | refine st_onExitR ?_ | refine st_onExitS ?_ | refine st_onExitO (by decide) ?_ | refine g_t ?_ | refine g_f rfl ?_ | refine o_op rfl ?_ | refine w_wr ?_ | refine w_wn ?_ | refine d_c rfl ?_ | refine d_on rfl ?_ | refine d_op rfl ?_ | refine d_y ?_ | refine d_gd rfl ?_ | refine d_t ?_ | refine d_f ?_ | refine d_nil ?_ | refine w_u false ?_ | refine w_dr rfl ?_ | refine d_q ?_ | refine w_gd rfl ?_ | ((first | refine zE1 ?_); (conv => arg 1; try simp only [go_sem, Nat.reduceEqDiff, reduceIte, Nat.reduceAdd, Nat.reduceLeDiff, Nat.reduceMul, Int.reduceEq, Int.reduceLT, Int.reduceLE, Int.reduceNeg, Int.reduceAdd, Int.reduceSub, Nat.reduceLT, Nat.reduceBEq, Nat.reduceSub, Nat.reducePow, h1, h2, h9, h10, h11, w1]); first | refine zE3 ?_ | refine zE2 ?_ | refine zE4 ?_ | refine zE5 ?_ | refine zE6 ?_ | refine zE7 ?_ | refine zE8 ?_) | (refine b_s (fun hb => ?_) (fun hb => ?_) <;> ((try simp only [hn1, hn2, hn3, hn4] at hb); first | (exfalso; omega) | skip)) | (first | refine g_s (fun hb => ?_) (fun hb => ?_) | refine d_s (fun hb => ?_) (fun hb => ?_)) <;> ((try simp only [hn1, hn2] at hb); rw [hb]; try simp only [hn3, hn4] at hb)
            have := hq hA nA (by omega) (by rw [hfl2]; exact ho3) hfr4
            rw [hfl2] at this
            exact this
        · have hdz' : ¬ (0 : Int) < (d : Int) := by omega
          subst hk
          repeat' first | refine w_op rfl rfl ?_ | refine x_p rfl ?_ | refine w_sr ?_ | refine st_nil ?_ | refine w_seq ?_ | refine st_region ?_ | refine st_block ?_ | refine w_cond ?_ | refine b_t ?_ | refine b_f ?_ | refine st_skip ?_ | refine st_exit ?_ | refine st_ret ?_ | refine st_onNormN ?_ | refine st_onNormE ?_ | refine st_onNormR ?_ | refine st_onExitN ?_ | refine st_onExitR ?_ | refine st_onExitS ?_ | refine st_onExitO (by decide) ?_ | refine g_t ?_ | refine g_f rfl ?_ | refine o_op rfl ?_ | refine w_wr ?_ | refine w_wn ?_ | refine d_c rfl ?_ | refine d_on rfl ?_ | refine d_op rfl ?_ | refine d_y ?_ | refine d_gd rfl ?_ | refine d_t ?_ | refine d_f ?_ | refine d_nil ?_ | refine w_u false ?_ | refine w_dr rfl ?_ | refine d_q ?_ | refine w_gd rfl ?_ | ((first | refine zE1 ?_); (conv => arg 1; try simp only [go_sem, Nat.reduceEqDiff, reduceIte, Nat.reduceAdd, Nat.reduceLeDiff, Nat.reduceMul, Int.reduceEq, Int.reduceLT, Int.reduceLE, Int.reduceNeg, Int.reduceAdd, Int.reduceSub, Nat.reduceLT, Nat.reduceBEq, Nat.reduceSub, Nat.reducePow, h1, h2, h9, h10, h11, hlt, hltn, hcut, hle, hdz']); first | refine zE3 ?_ | refine zE2 ?_ | refine zE4 ?_ | refine zE5 ?_ | refine zE6 ?_ | refine zE7 ?_ | refine zE8 ?_) | (refine b_s (fun hb => ?_) (fun hb => ?_) <;> ((try simp only [hn1, hn2, hn3, hn4] at hb); first | (exfalso; omega) | skip)) | (first | refine g_s (fun hb => ?_) (fun hb => ?_) | refine d_s (fun hb => ?_) (fun hb => ?_)) <;> ((try simp only [hn1, hn2] at hb); rw [hb]; try simp only [hn3, hn4] at hb)
          refine st_walk rfl rfl (by simp only [vop, val, argsT, upd_ap, Nat.reduceEqDiff, if_true, if_false, ite_true, ite_false, reduceIte, loadAt, loadA, AV.cells, AV.one, List.all_cons, List.all_nil, ofV, ofCell, plain, List.getElem?_cons_zero, List.getElem?_cons_succ, List.getElem?_toArray, Option.getD_some, Bool.not_true, Bool.not_false, Bool.false_eq_true, Bool.and_true, Bool.true_and, Bool.and_self, Nat.zero_add, Option.map_some, Option.bind_some, List.map_cons, List.map_nil, ev_add, ev_sub, ev_mul, ev_lss, ev_leq, ev_gtr, ev_geq, ev_eql, ev_neq, ev_seql, ev_sneq, ev_sleq, ev_slss, ev_not, ev_min, ev_max, asNat_nat, asNat_zero, asNat_one, asNat_two, asNat_three, vb_len, List.length_cons, List.length_nil, Nat.reduceAdd, Nat.reduceLeDiff, Nat.reduceMul, Int.reduceEq, Int.reduceLT, Int.reduceLE, Int.reduceNeg, Int.reduceAdd, Int.reduceSub, Nat.reduceLT, decide_true, decide_false, not_true_eq_false, not_false_eq_true, and_self, and_true, true_and, storeA, List.take_zero, List.drop_succ_cons, List.drop_zero, List.nil_append, List.append_nil, List.take_succ_cons, List.cons_append, cut_cons, cut_zero, cut_skip, tAt, hHide, hAt, upsAt, List.contains_cons, List.contains_nil, Nat.reduceBEq, Bool.or_true, Bool.true_or, Bool.or_false, Bool.false_or, Bool.or_self, Bool.and_true, Bool.true_and, Bool.and_false, Bool.false_and, beq_self_eq_true (α := Nat), Option.some_beq_some, Option.none_beq_some, Option.some_beq_none, Bool.false_eq_true, List.all_nil, touch, touchB, Nat.sub_self, List.range'_zero, Nat.add_sub_cancel_left, List.range'_one, h2]; with_reducible rfl) (by simp only [vop, val, argsT, upd_ap, Nat.reduceEqDiff, if_true, if_false, ite_true, ite_false, reduceIte, loadAt, loadA, AV.cells, AV.one, List.all_cons, List.all_nil, ofV, ofCell, plain, List.getElem?_cons_zero, List.getElem?_cons_succ, List.getElem?_toArray, Option.getD_some, Bool.not_true, Bool.not_false, Bool.false_eq_true, Bool.and_true, Bool.true_and, Bool.and_self, Nat.zero_add, Option.map_some, Option.bind_some, List.map_cons, List.map_nil, ev_add, ev_sub, ev_mul, ev_lss, ev_leq, ev_gtr, ev_geq, ev_eql, ev_neq, ev_seql, ev_sneq, ev_sleq, ev_slss, ev_not, ev_min, ev_max, asNat_nat, asNat_zero, asNat_one, asNat_two, asNat_three, vb_len, List.length_cons, List.length_nil, Nat.reduceAdd, Nat.reduceLeDiff, Nat.reduceMul, Int.reduceEq, Int.reduceLT, Int.reduceLE, Int.reduceNeg, Int.reduceAdd, Int.reduceSub, Nat.reduceLT, decide_true, decide_false, not_true_eq_false, not_false_eq_true, and_self, and_true, true_and, storeA, List.take_zero, List.drop_succ_cons, List.drop_zero, List.nil_append, List.append_nil, List.take_succ_cons, List.cons_append, cut_cons, cut_zero, cut_skip, tAt, hHide, hAt, upsAt, List.contains_cons, List.contains_nil, Nat.reduceBEq, Bool.or_true, Bool.true_or, Bool.or_false, Bool.false_or, Bool.or_self, Bool.and_true, Bool.true_and, Bool.and_false, Bool.false_and, beq_self_eq_true (α := Nat), Option.some_beq_some, Option.none_beq_some, Option.some_beq_none, Bool.false_eq_true, List.all_nil, touch, touchB, Nat.sub_self, List.range'_zero, Nat.add_sub_cancel_left, List.range'_one]; with_reducible rfl) rfl rfl ?_
          refine gf46 G (.mk 5 ng cf ex t l' ks) o acc' hacc' ho2 _ (fun hA nA hn2 ho3 hfr3 => st_gn (by omega) rfl ?_)
          have hfv : flV (.mk 5 ng cf ex t l' ks) d acc' = (acc' ++ [.mk 5 ng cf ex t l' ks], decide ((acc' ++ [JV.mk 5 ng cf ex t l' ks]).length ≤ 4096)) := by
            simp only [flV]
            rw [if_neg (by omega)]
          have hfl2 : flL l d acc = if decide ((acc' ++ [JV.mk 5 ng cf ex t l' ks]).length ≤ 4096) = true then flL r d (acc' ++ [.mk 5 ng cf ex t l' ks]) else (acc' ++ [.mk 5 ng cf ex t l' ks], false) := by
            rw [← hfl, flL, hfv]
          have hfr4 : ∀ m, m < o → hA m = h m := fun m hm => by
            rw [hfr3 m hm, upd_ne _ _ (by omega), upd_ne _ _ (by omega), hfr m hm]
          cases hok : decide ((acc' ++ [JV.mk 5 ng cf ex t l' ks]).length ≤ 4096) with
          | true =>
            rw [hok, if_pos rfl] at hfl2
            repeat' first | refine w_op rfl rfl ?_ | refine x_p rfl ?_ | refine w_sr ?_ | refine st_nil ?_ | refine w_seq ?_ | refine st_region ?_ | refine st_block ?_ | refine w_cond ?_ | refine b_t ?_ | refine b_f ?_ | refine st_skip ?_ | refine st_exit ?_ | refine st_ret ?_ | refine st_onNormN ?_ | refine st_onNormE ?_ | refine st_onNormR ?_ | refine st_onExitN ?_ | refine st_onExitR ?_ | refine st_onExitS ?_ | refine st_onExitO (by decide) ?_ | refine g_t ?_ | refine g_f rfl ?_ | refine o_op rfl ?_ | refine w_wr ?_ | refine w_wn ?_ | refine d_c rfl ?_ | refine d_on rfl ?_ | refine d_op rfl ?_ | refine d_y ?_ | refine d_gd rfl ?_ | refine d_t ?_ | refine d_f ?_ | refine d_nil ?_ | refine w_u false ?_ | refine w_dr rfl ?_ | refine d_q ?_ | refine w_gd rfl ?_ | ((first | refine zE1 ?_); (conv => arg 1; try simp only [go_sem, Nat.reduceEqDiff, reduceIte, Nat.reduceAdd, Nat.reduceLeDiff, Nat.reduceMul, Int.reduceEq, Int.reduceLT, Int.reduceLE, Int.reduceNeg, Int.reduceAdd, Int.reduceSub, Nat.reduceLT, Nat.reduceBEq, Nat.reduceSub, Nat.reducePow, h1, h2, h9, h10, h11, w1]); first | refine zE3 ?_ | refine zE2 ?_ | refine zE4 ?_ | refine zE5 ?_ | refine zE6 ?_ | refine zE7 ?_ | refine zE8 ?_) | (refine b_s (fun hb => ?_) (fun hb => ?_) <;> ((try simp only [hn1, hn2, hn3, hn4] at hb); first | (exfalso; omega) | skip)) | (first | refine g_s (fun hb => ?_) (fun hb => ?_) | refine d_s (fun hb => ?_) (fun hb => ?_)) <;> ((try simp only [hn1, hn2] at hb); rw [hb]; try simp only [hn3, hn4] at hb)
            refine ⟨r.length, by simp, dn ++ [.mk 5 ng cf ex t l' ks], r, acc' ++ [.mk 5 ng cf ex t l' ks], by simp [hdr], rfl, hfl2.symm, of_decide_eq_true hok, by show n ≤ nA; omega, hfr4, ho3, ?_, ?_, ?_, ?_, ?_⟩
            all_goals simp [upd_ap, h1, h2, h9, h10]
          | false =>
            rw [hok, if_neg (by decide)] at hfl2
            repeat' first | refine w_op rfl rfl ?_ | refine x_p rfl ?_ | refine w_sr ?_ | refine st_nil ?_ | refine w_seq ?_ | refine st_region ?_ | refine st_block ?_ | refine w_cond ?_ | refine b_t ?_ | refine b_f ?_ | refine st_skip ?_ | refine st_exit ?_ | refine st_ret ?_ | refine st_onNormN ?_ | refine st_onNormE ?_ | refine st_onNormR ?_ | refine st_onExitN ?_ | refine st_onExitR ?_ | refine st_onExitS ?_ | refine st_onExitO (by decide) ?_ | refine g_t ?_ | refine g_f rfl ?_ | refine o_op rfl ?_ | refine w_wr ?_ | refine w_wn ?_ | refine d_c rfl ?_ | refine d_on rfl ?_ | refine d_op rfl ?_ | refine d_y ?_ | refine d_gd rfl ?_ | refine d_t ?_ | refine d_f ?_ | refine d_nil ?_ | refine w_u false ?_ | refine w_dr rfl ?_ | refine d_q ?_ | refine w_gd rfl ?_ | ((first | refine zE1 ?_); (conv => arg 1; try simp only [go_sem, Nat.reduceEqDiff, reduceIte, Nat.reduceAdd, Nat.reduceLeDiff, Nat.reduceMul, Int.reduceEq, Int.reduceLT, Int.reduceLE, Int.reduceNeg, Int.reduceAdd, Int.reduceSub, Nat.reduceLT, Nat.reduceBEq, Nat.reduceSub, Nat.reducePow, h1, h2, h9, h10, h11, w1]); first | refine zE3 ?_ | refine zE2 ?_ | refine zE4 ?_ | refine zE5 ?_ | refine zE6 ?_ | refine zE7 ?_ | refine zE8 ?_) | (refine b_s (fun hb => ?_) (fun hb => ?_) <;> ((try simp only [hn1, hn2, hn3, hn4] at hb); first | (exfalso; omega) | skip)) | (first | refine g_s (fun hb => ?_) (fun hb => ?_) | refine d_s (fun hb => ?_) (fun hb => ?_)) <;> ((try simp only [hn1, hn2] at hb); rw [hb]; try simp only [hn3, hn4] at hb)
            have := hq hA nA (by omega) (by rw [hfl2]; exact ho3) hfr4
            rw [hfl2] at this
            exact this
      · repeat' first | refine w_op rfl rfl ?_ | refine x_p rfl ?_ | refine w_sr ?_ | refine st_nil ?_ | refine w_seq ?_ | refine st_region ?_ | refine st_block ?_ | refine w_cond ?_ | refine b_t ?_ | refine b_f ?_ | refine st_skip ?_ | refine st_exit ?_ | refine st_ret ?_ | refine st_onNormN ?_ | refine st_onNormE ?_ | refine st_onNormR ?_ | refine st_onExitN ?_ | refine st_onExitR ?_ | refine st_onExitS ?_ | refine st_onExitO (by decide) ?_ | refine g_t ?_ | refine g_f rfl ?_ | refine o_op rfl ?_ | refine w_wr ?_ | refine w_wn ?_ | refine d_c rfl ?_ | refine d_on rfl ?_ | refine d_op rfl ?_ | refine d_y ?_ | refine d_gd rfl ?_ | refine d_t ?_ | refine d_f ?_ | refine d_nil ?_ | refine w_u false ?_ | refine w_dr rfl ?_ | refine d_q ?_ | refine w_gd rfl ?_ | ((first | refine zE1 ?_); (conv => arg 1; try simp only [go_sem, Nat.reduceEqDiff, reduceIte, Nat.reduceAdd, Nat.reduceLeDiff, Nat.reduceMul, Int.reduceEq, Int.reduceLT, Int.reduceLE, Int.reduceNeg, Int.reduceAdd, Int.reduceSub, Nat.reduceLT, Nat.reduceBEq, Nat.reduceSub, Nat.reducePow, h1, h2, h9, h10, h11, hlt, hltn, hcut, hle, hk]); first | refine zE3 ?_ | refine zE2 ?_ | refine zE4 ?_ | refine zE5 ?_ | refine zE6 ?_ | refine zE7 ?_ | refine zE8 ?_) | (refine b_s (fun hb => ?_) (fun hb => ?_) <;> ((try simp only [hn1, hn2, hn3, hn4] at hb); first | (exfalso; omega) | skip)) | (first | refine g_s (fun hb => ?_) (fun hb => ?_) | refine d_s (fun hb => ?_) (fun hb => ?_)) <;> ((try simp only [hn1, hn2] at hb); rw [hb]; try simp only [hn3, hn4] at hb)
        refine st_walk rfl rfl (by simp only [vop, val, argsT, upd_ap, Nat.reduceEqDiff, if_true, if_false, ite_true, ite_false, reduceIte, loadAt, loadA, AV.cells, AV.one, List.all_cons, List.all_nil, ofV, ofCell, plain, List.getElem?_cons_zero, List.getElem?_cons_succ, List.getElem?_toArray, Option.getD_some, Bool.not_true, Bool.not_false, Bool.false_eq_true, Bool.and_true, Bool.true_and, Bool.and_self, Nat.zero_add, Option.map_some, Option.bind_some, List.map_cons, List.map_nil, ev_add, ev_sub, ev_mul, ev_lss, ev_leq, ev_gtr, ev_geq, ev_eql, ev_neq, ev_seql, ev_sneq, ev_sleq, ev_slss, ev_not, ev_min, ev_max, asNat_nat, asNat_zero, asNat_one, asNat_two, asNat_three, vb_len, List.length_cons, List.length_nil, Nat.reduceAdd, Nat.reduceLeDiff, Nat.reduceMul, Int.reduceEq, Int.reduceLT, Int.reduceLE, Int.reduceNeg, Int.reduceAdd, Int.reduceSub, Nat.reduceLT, decide_true, decide_false, not_true_eq_false, not_false_eq_true, and_self, and_true, true_and, storeA, List.take_zero, List.drop_succ_cons, List.drop_zero, List.nil_append, List.append_nil, List.take_succ_cons, List.cons_append, cut_cons, cut_zero, cut_skip, tAt, hHide, hAt, upsAt, List.contains_cons, List.contains_nil, Nat.reduceBEq, Bool.or_true, Bool.true_or, Bool.or_false, Bool.false_or, Bool.or_self, Bool.and_true, Bool.true_and, Bool.and_false, Bool.false_and, beq_self_eq_true (α := Nat), Option.some_beq_some, Option.none_beq_some, Option.some_beq_none, Bool.false_eq_true, List.all_nil, touch, touchB, Nat.sub_self, List.range'_zero, Nat.add_sub_cancel_left, List.range'_one, h2]; with_reducible rfl) (by simp only [vop, val, argsT, upd_ap, Nat.reduceEqDiff, if_true, if_false, ite_true, ite_false, reduceIte, loadAt, loadA, AV.cells, AV.one, List.all_cons, List.all_nil, ofV, ofCell, plain, List.getElem?_cons_zero, List.getElem?_cons_succ, List.getElem?_toArray, Option.getD_some, Bool.not_true, Bool.not_false, Bool.false_eq_true, Bool.and_true, Bool.true_and, Bool.and_self, Nat.zero_add, Option.map_some, Option.bind_some, List.map_cons, List.map_nil, ev_add, ev_sub, ev_mul, ev_lss, ev_leq, ev_gtr, ev_geq, ev_eql, ev_neq, ev_seql, ev_sneq, ev_sleq, ev_slss, ev_not, ev_min, ev_max, asNat_nat, asNat_zero, asNat_one, asNat_two, asNat_three, vb_len, List.length_cons, List.length_nil, Nat.reduceAdd, Nat.reduceLeDiff, Nat.reduceMul, Int.reduceEq, Int.reduceLT, Int.reduceLE, Int.reduceNeg, Int.reduceAdd, Int.reduceSub, Nat.reduceLT, decide_true, decide_false, not_true_eq_false, not_false_eq_true, and_self, and_true, true_and, storeA, List.take_zero, List.drop_succ_cons, List.drop_zero, List.nil_append, List.append_nil, List.take_succ_cons, List.cons_append, cut_cons, cut_zero, cut_skip, tAt, hHide, hAt, upsAt, List.contains_cons, List.contains_nil, Nat.reduceBEq, Bool.or_true, Bool.true_or, Bool.or_false, Bool.false_or, Bool.or_self, Bool.and_true, Bool.true_and, Bool.and_false, Bool.false_and, beq_self_eq_true (α := Nat), Option.some_beq_some, Option.none_beq_some, Option.some_beq_none, Bool.false_eq_true, List.all_nil, touch, touchB, Nat.sub_self, List.range'_zero, Nat.add_sub_cancel_left, List.range'_one]; with_reducible rfl) rfl rfl ?_
        refine gf46 G (.mk kk ng cf ex t l' ks) o acc' hacc' ho2 _ (fun hA nA hn2 ho3 hfr3 => st_gn (by omega) rfl ?_)
        have hfv : flV (.mk kk ng cf ex t l' ks) d acc' = (acc' ++ [.mk kk ng cf ex t l' ks], decide ((acc' ++ [JV.mk kk ng cf ex t l' ks]).length ≤ 4096)) := by
          simp only [flV]
          rw [if_neg (by omega)]
        have hfl2 : flL l d acc = if decide ((acc' ++ [JV.mk kk ng cf ex t l' ks]).length ≤ 4096) = true then flL r d (acc' ++ [.mk kk ng cf ex t l' ks]) else (acc' ++ [.mk kk ng cf ex t l' ks], false) := by
          rw [← hfl, flL, hfv]
        have hfr4 : ∀ m, m < o → hA m = h m := fun m hm => by
          rw [hfr3 m hm, upd_ne _ _ (by omega), upd_ne _ _ (by omega), hfr m hm]
        cases hok : decide ((acc' ++ [JV.mk kk ng cf ex t l' ks]).length ≤ 4096) with
        | true =>
          rw [hok, if_pos rfl] at hfl2
          repeat' first | refine w_op rfl rfl ?_ | refine x_p rfl ?_ | refine w_sr ?_ | refine st_nil ?_ | refine w_seq ?_ | refine st_region ?_ | refine st_block ?_ | refine w_cond ?_ | refine b_t ?_ | refine b_f ?_ | refine st_skip ?_ | refine st_exit ?_ | refine st_ret ?_ | refine st_onNormN ?_ | refine st_onNormE ?_ | refine st_onNormR ?_ | refine st_onExitN ?_ | refine st_onExitR ?_ | refine st_onExitS ?_ | refine st_onExitO (by decide) ?_ | refine g_t ?_ | refine g_f rfl ?_ | refine o_op rfl ?_ | refine w_wr ?_ | refine w_wn ?_ | refine d_c rfl ?_ | refine d_on rfl ?_ | refine d_op rfl ?_ | refine d_y ?_ | refine d_gd rfl ?_ | refine d_t ?_ | refine d_f ?_ | refine d_nil ?_ | refine w_u false ?_ | refine w_dr rfl ?_ | refine d_q ?_ | refine w_gd rfl ?_ | ((first | refine zE1 ?_); (conv => arg 1; try simp only [go_sem, Nat.reduceEqDiff, reduceIte, Nat.reduceAdd, Nat.reduceLeDiff, Nat.reduceMul, Int.reduceEq, Int.reduceLT, Int.reduceLE, Int.reduceNeg, Int.reduceAdd, Int.reduceSub, Nat.reduceLT, Nat.reduceBEq, Nat.reduceSub, Nat.reducePow, h1, h2, h9, h10, h11, w1]); first | refine zE3 ?_ | refine zE2 ?_ | refine zE4 ?_ | refine zE5 ?_ | refine zE6 ?_ | refine zE7 ?_ | refine zE8 ?_) | (refine b_s (fun hb => ?_) (fun hb => ?_) <;> ((try simp only [hn1, hn2, hn3, hn4] at hb); first | (exfalso; omega) | skip)) | (first | refine g_s (fun hb => ?_) (fun hb => ?_) | refine d_s (fun hb => ?_) (fun hb => ?_)) <;> ((try simp only [hn1, hn2] at hb); rw [hb]; try simp only [hn3, hn4] at hb)
          refine ⟨r.length, by simp, dn ++ [.mk kk ng cf ex t l' ks], r, acc' ++ [.mk kk ng cf ex t l' ks], by simp [hdr], rfl, hfl2.symm, of_decide_eq_true hok, by show n ≤ nA; omega, hfr4, ho3, ?_, ?_, ?_, ?_, ?_⟩
          all_goals simp [upd_ap, h1, h2, h9, h10]
        | false =>
          rw [hok, if_neg (by decide)] at hfl2
          repeat' first | refine w_op rfl rfl ?_ | refine x_p rfl ?_ | refine w_sr ?_ | refine st_nil ?_ | refine w_seq ?_ | refine st_region ?_ | refine st_block ?_ | refine w_cond ?_ | refine b_t ?_ | refine b_f ?_ | refine st_skip ?_ | refine st_exit ?_ | refine st_ret ?_ | refine st_onNormN ?_ | refine st_onNormE ?_ | refine st_onNormR ?_ | refine st_onExitN ?_ | refine st_onExitR ?_ | refine st_onExitS ?_ | refine st_onExitO (by decide) ?_ | refine g_t ?_ | refine g_f rfl ?_ | refine o_op rfl ?_ | refine w_wr ?_ | refine w_wn ?_ | refine d_c rfl ?_ | refine d_on rfl ?_ | refine d_op rfl ?_ | refine d_y ?_ | refine d_gd rfl ?_ | refine d_t ?_ | refine d_f ?_ | refine d_nil ?_ | refine w_u false ?_ | refine w_dr rfl ?_ | refine d_q ?_ | refine w_gd rfl ?_ | ((first | refine zE1 ?_); (conv => arg 1; try simp only [go_sem, Nat.reduceEqDiff, reduceIte, Nat.reduceAdd, Nat.reduceLeDiff, Nat.reduceMul, Int.reduceEq, Int.reduceLT, Int.reduceLE, Int.reduceNeg, Int.reduceAdd, Int.reduceSub, Nat.reduceLT, Nat.reduceBEq, Nat.reduceSub, Nat.reducePow, h1, h2, h9, h10, h11, w1]); first | refine zE3 ?_ | refine zE2 ?_ | refine zE4 ?_ | refine zE5 ?_ | refine zE6 ?_ | refine zE7 ?_ | refine zE8 ?_) | (refine b_s (fun hb => ?_) (fun hb => ?_) <;> ((try simp only [hn1, hn2, hn3, hn4] at hb); first | (exfalso; omega) | skip)) | (first | refine g_s (fun hb => ?_) (fun hb => ?_) | refine d_s (fun hb => ?_) (fun hb => ?_)) <;> ((try simp only [hn1, hn2] at hb); rw [hb]; try simp only [hn3, hn4] at hb)
          have := hq hA nA (by omega) (by rw [hfl2]; exact ho3) hfr4
          rw [hfl2] at this
          exact this
  · simp [upd_ap, argsT]
termination_by l
decreasing_by
  obtain ⟨k', n', c', e', t', l', ks'⟩ := x
  have := List.sizeOf_lt_of_mem hx
  simp only [JV.list]
  simp at this
  omega
end Go.Proofs.Bv
/-
  kinds.Flatten.
  Conditions: none.
-/
namespace Go.Proofs.Bv
open Go
mutual
theorem flV_fit : (v : JV) → (d : Nat) → (acc : List JV) → Fit v → Fits acc → Fits (flV v d acc).1
  | .mk k ng cf ex t l ks, d, acc => by
    intro h1 h2
    simp only [flV]
    split
    · exact flL_fit l (d - 1) acc h1.2 h2
    · have : ∀ {a b : List JV}, Fits a → Fits b → Fits (a ++ b) := by
        intro a
        induction a with
        | nil => intro b _ hb; exact hb
        | cons x a ih => intro b ha hb; exact ⟨ha.1, ih ha.2 hb⟩
      exact this h2 ⟨h1, trivial⟩
theorem flL_fit : (l : List JV) → (d : Nat) → (acc : List JV) → Fits l → Fits acc → Fits (flL l d acc).1
  | [], d, acc => by
    intro _ h2
    simpa [flL] using h2
  | x :: r, d, acc => by
    intro h1 h2
    simp only [flL]
    split
    · exact flL_fit r d _ h1.2 (flV_fit x d acc h1.1 h2)
    · exact flV_fit x d acc h1.1 h2
end
mutual
theorem flV_len2 : (v : JV) → (d : Nat) → (acc : List JV) → acc.length ≤ 4096 → (flV v d acc).1.length ≤ 4097
  | .mk k ng cf ex t l ks, d, acc => by
    intro h2
    simp only [flV]
    split
    · exact flL_len2 l (d - 1) acc h2
    · simp; omega
theorem flL_len2 : (l : List JV) → (d : Nat) → (acc : List JV) → acc.length ≤ 4096 → (flL l d acc).1.length ≤ 4097
  | [], d, acc => by
    intro h2
    simp [flL]; omega
  | x :: r, d, acc => by
    intro h2
    simp only [flL]
    split
    · rename_i hc
      exact flL_len2 r d _ (flV_len x d acc hc h2)
    · exact flV_len2 x d acc h2
end
def zeroV : JV := .mk 0 false [] 0 ⟨#[]⟩ [] []
/-- kinds.Flatten. -/
def flatten (v : JV) (d : Int) : JV × Int :=
  if ¬ chk v = 0 then (zeroV, chk v)
  else if ¬ v.kind = 5 then (zeroV, 41)
  else if d < 0 then (zeroV, 4)
  else whole (.mk 5 false [] 0 ByteArray.empty (flL v.list d.toNat []).1 []) 0
theorem fit_flat {l : List JV} (hl : l.length ≤ 4097) (h : Fits l) : Fit (.mk 5 false [] 0 ByteArray.empty l []) := by
  refine ⟨⟨by omega, by omega, by simp, by simp, by simp, by omega, by simp, by simp⟩, h⟩
theorem flatten_mk (k : Int) (ng : Bool) (cf : List Int) (ex : Int) (t : ByteArray) (l : List JV) (ks : List ByteArray) (d : Int) : flatten (.mk k ng cf ex t l ks) d =
    if ¬ chk (.mk k ng cf ex t l ks) = 0 then (zeroV, chk (.mk k ng cf ex t l ks)) else if ¬ k = 5 then (zeroV, 41) else if d < 0 then (zeroV, 4) else whole (.mk 5 false [] 0 ByteArray.empty (flL l d.toNat []).1 []) 0 := rfl
theorem enc_ex (v : JV) : ∃ k ng cf ex t l ks, enc v = [.sc (.int .i64 k), .sc (.bool ng), .psl (u32s cf) cf.length, .sc (.int .i64 ex), .sc (.string t), .psl (encs l) l.length, .psl (strs ks) ks.length] := by
  obtain ⟨k, ng, cf, ex, t, l, ks⟩ := v
  exact ⟨_, _, _, _, _, _, _, rfl⟩
set_option maxHeartbeats 8000000 in
set_option maxRecDepth 100000 in
theorem pc12 (G : Nat → Option (List AV)) (v : JV) (d : Int) (hfit : Fit v) (hd : d ≤ 1000000) : Pc (Cf G) 12 [.agg (enc v), .sc (.int .i64 d)] (.tup [.agg (enc (flatten v d).1), .sc (.int .i64 (flatten v d).2)]) := by
  have h1 := pc44 G v hfit
  obtain ⟨k, ng, cf, ex, t, l, ks⟩ := v
  rw [flatten_mk]
  generalize chk (.mk k ng cf ex t l ks) = c1 at *
  simp only [enc] at h1
  by_cases hok : c1 = 0 ∧ k = 5 ∧ ¬ d < 0
  · obtain ⟨rfl, rfl, hd0⟩ := hok
    obtain ⟨dn, rfl⟩ : ∃ dn : Nat, d = dn := ⟨d.toNat, by omega⟩
    rw [if_neg (by decide), if_neg (by decide), if_neg hd0, Int.toNat_natCast]
    have hlen := flL_len2 l dn [] (by simp)
    have hff := flL_fit l dn [] hfit.2 trivial
    have hw := pc47 G (.mk 5 false [] 0 ByteArray.empty (flL l dn []).1 []) 0 (fit_flat hlen hff)
    simp only [enc, encs, u32s, strs, List.map_nil, List.length_nil] at hw
    refine Pc_of (Gf_enter (C := Cf G) Tryz.func12 rfl ok12 (Nat.le_of_ble_eq_true rfl) ?_)
    simp only [Tryz.f12, Option.getD_some]
    simp only [enc]
    repeat' first | refine w_op rfl rfl ?_ | refine x_p rfl ?_ | refine w_sr ?_ | refine st_nil ?_ | refine w_seq ?_ | refine st_region ?_ | refine st_block ?_ | refine w_cond ?_ | refine b_t ?_ | refine b_f ?_ | refine st_skip ?_ | refine st_exit ?_ | refine st_ret ?_ | refine st_onNormN ?_ | refine st_onNormE ?_ | refine st_onNormR ?_ | refine st_onExitN ?_ | refine st_onExitR ?_ | refine st_onExitS ?_ | refine st_onExitO (by decide) ?_ | refine g_t ?_ | refine g_f rfl ?_ | refine o_op rfl ?_ | refine w_wr ?_ | refine w_wn ?_ | refine d_c rfl ?_ | refine d_on rfl ?_ | refine d_op rfl ?_ | refine d_y ?_ | refine d_gd rfl ?_ | refine d_t ?_ | refine d_f ?_ | refine d_nil ?_ | refine w_u false ?_ | refine w_dr rfl ?_ | refine d_q ?_ | refine n_0 rfl ?_ | refine d_n ?_ | refine k_p rfl rfl rfl rfl (h1) ?_ | refine w_gd rfl ?_ | ((first | refine zE1 ?_ | refine w_cl rfl rfl ?_ | refine o_cl rfl ?_ | refine d_cl rfl ?_); (conv => arg 1; try simp only [go_sem, Nat.reduceEqDiff, reduceIte, Nat.reduceAdd, Nat.reduceLeDiff, Nat.reduceMul, Int.reduceEq, Int.reduceLT, Int.reduceLE, Int.reduceNeg, Int.reduceAdd, Int.reduceSub, Nat.reduceLT, Nat.reduceBEq, Nat.reduceSub, Nat.reducePow, hd0, fillA, Array.size_empty, List.size_toArray, List.length_nil]); first | refine zE3 ?_ | refine zE2 ?_ | refine zE4 ?_ | refine zE5 ?_ | refine zE6 ?_ | refine zE7 ?_ | refine zE8 ?_) | (refine b_s (fun hb => ?_) (fun hb => ?_) <;> ((try simp only [hn1, hn2, hn3, hn4] at hb); first | (exfalso; omega) | skip)) | (first | refine g_s (fun hb => ?_) (fun hb => ?_) | refine d_s (fun hb => ?_) (fun hb => ?_)) <;> ((try simp only [hn1, hn2] at hb); rw [hb]; try simp only [hn3, hn4] at hb)
    refine k_w rfl rfl ?_
    refine gf45 G 2 l hfit.2 hfit.1.nlist dn [] _ _ _ (by omega) (by simp) ⟨by show 2 < 3; omega, .inl ⟨rfl, rfl⟩⟩ (fun h' n' hn' ho hfr => st_gn hn' rfl ?_)
    have q0 := hfr 0 (by omega)
    have q1 := hfr 1 (by omega)
    generalize whole (.mk 5 false [] 0 ByteArray.empty (flL l dn []).1 []) 0 = w at *
    generalize (flL l dn []).1 = acc at *
    obtain ⟨w1, w2⟩ := w
    obtain ⟨k', ng', cf', ex', t', l', ks', hwe⟩ := enc_ex w1
    simp only at hw ⊢
    rw [hwe] at hw ⊢
    simp only [vop, val, argsT, upd_ap, Nat.reduceEqDiff, if_true, if_false, ite_true, ite_false, reduceIte, loadAt, loadA, AV.cells, AV.one, List.all_cons, List.all_nil, ofV, ofCell, plain, List.getElem?_cons_zero, List.getElem?_cons_succ, List.getElem?_toArray, Option.getD_some, Bool.not_true, Bool.not_false, Bool.false_eq_true, Bool.and_true, Bool.true_and, Bool.and_self, Nat.zero_add, Option.map_some, Option.bind_some, List.map_cons, List.map_nil, ev_add, ev_sub, ev_mul, ev_lss, ev_leq, ev_gtr, ev_geq, ev_eql, ev_neq, ev_seql, ev_sneq, ev_sleq, ev_slss, ev_not, ev_min, ev_max, asNat_nat, asNat_zero, asNat_one, asNat_two, asNat_three, vb_len, List.length_cons, List.length_nil, Nat.reduceAdd, Nat.reduceLeDiff, Nat.reduceMul, Int.reduceEq, Int.reduceLT, Int.reduceLE, Int.reduceNeg, Int.reduceAdd, Int.reduceSub, Nat.reduceLT, decide_true, decide_false, not_true_eq_false, not_false_eq_true, and_self, and_true, true_and, storeA, List.take_zero, List.drop_succ_cons, List.drop_zero, List.nil_append, List.append_nil, List.take_succ_cons, List.cons_append, cut_cons, cut_zero, cut_skip, tAt, hHide, hAt, upsAt, List.contains_cons, List.contains_nil, Nat.reduceBEq, Bool.or_true, Bool.true_or, Bool.or_false, Bool.false_or, Bool.or_self, Bool.and_true, Bool.true_and, Bool.and_false, Bool.false_and, beq_self_eq_true (α := Nat), Option.some_beq_some, Option.none_beq_some, Option.some_beq_none, Bool.false_eq_true, List.all_nil, touch, touchB, Nat.sub_self, List.range'_zero, Nat.add_sub_cancel_left, List.range'_one] at q0 q1
    obtain ⟨ho2, ho⟩ := ho
    rcases ho with ⟨rfl, hh⟩ | ⟨hne, b, hb1, hb2, hh, hhb⟩
    · simp only [encs, List.length_nil] at hw
      repeat' first | refine w_op rfl rfl ?_ | refine x_p rfl ?_ | refine w_sr ?_ | refine st_nil ?_ | refine w_seq ?_ | refine st_region ?_ | refine st_block ?_ | refine w_cond ?_ | refine b_t ?_ | refine b_f ?_ | refine st_skip ?_ | refine st_exit ?_ | refine st_ret ?_ | refine st_onNormN ?_ | refine st_onNormE ?_ | refine st_onNormR ?_ | refine st_onExitN ?_ | refine st_onExitR ?_ | refine st_onExitS ?_ | refine st_onExitO (by decide) ?_ | refine g_t ?_ | refine g_f rfl ?_ | refine o_op rfl ?_ | refine w_wr ?_ | refine w_wn ?_ | refine d_c rfl ?_ | refine d_on rfl ?_ | refine d_op rfl ?_ | refine d_y ?_ | refine d_gd rfl ?_ | refine d_t ?_ | refine d_f ?_ | refine d_nil ?_ | refine w_u false ?_ | refine w_dr rfl ?_ | refine d_q ?_ | refine n_0 rfl ?_ | refine d_n ?_ | refine k_z rfl ?_ | refine z_f rfl rfl (hw) rfl ?_ | refine z_g rfl rfl (hw) rfl ?_ | refine d_m (Nat.le_refl _) ?_ | refine w_gd rfl ?_ | ((first | refine zE1 ?_ | refine w_cl rfl rfl ?_ | refine o_cl rfl ?_ | refine d_cl rfl ?_); (conv => arg 1; try simp only [go_sem, Nat.reduceEqDiff, reduceIte, Nat.reduceAdd, Nat.reduceLeDiff, Nat.reduceMul, Int.reduceEq, Int.reduceLT, Int.reduceLE, Int.reduceNeg, Int.reduceAdd, Int.reduceSub, Nat.reduceLT, Nat.reduceBEq, Nat.reduceSub, Nat.reducePow, q0, q1, hh, shut_at]); first | refine zE3 ?_ | refine zE2 ?_ | refine zE4 ?_ | refine zE5 ?_ | refine zE6 ?_ | refine zE7 ?_ | refine zE8 ?_) | (refine b_s (fun hb => ?_) (fun hb => ?_) <;> ((try simp only [hn1, hn2, hn3, hn4] at hb); first | (exfalso; omega) | skip)) | (first | refine g_s (fun hb => ?_) (fun hb => ?_) | refine d_s (fun hb => ?_) (fun hb => ?_)) <;> ((try simp only [hn1, hn2] at hb); rw [hb]; try simp only [hn3, hn4] at hb)
      rfl
    · have e1 : (1 == b) = false := beq_false_of_ne (by omega)
      have e1' : (b == 1) = false := beq_false_of_ne (by omega)
      have e2 : ¬ 1 = b := by omega
      have e3 : ¬ b = 1 := by omega
      repeat' first | refine w_op rfl rfl ?_ | refine x_p rfl ?_ | refine w_sr ?_ | refine st_nil ?_ | refine w_seq ?_ | refine st_region ?_ | refine st_block ?_ | refine w_cond ?_ | refine b_t ?_ | refine b_f ?_ | refine st_skip ?_ | refine st_exit ?_ | refine st_ret ?_ | refine st_onNormN ?_ | refine st_onNormE ?_ | refine st_onNormR ?_ | refine st_onExitN ?_ | refine st_onExitR ?_ | refine st_onExitS ?_ | refine st_onExitO (by decide) ?_ | refine g_t ?_ | refine g_f rfl ?_ | refine o_op rfl ?_ | refine w_wr ?_ | refine w_wn ?_ | refine d_c rfl ?_ | refine d_on rfl ?_ | refine d_op rfl ?_ | refine d_y ?_ | refine d_gd rfl ?_ | refine d_t ?_ | refine d_f ?_ | refine d_nil ?_ | refine w_u false ?_ | refine w_dr rfl ?_ | refine d_q ?_ | refine n_0 rfl ?_ | refine d_n ?_ | refine k_z rfl ?_ | refine z_f rfl rfl (hw) rfl ?_ | refine z_g rfl rfl (hw) rfl ?_ | refine d_m (Nat.le_refl _) ?_ | refine w_gd rfl ?_ | ((first | refine zE1 ?_ | refine w_cl rfl rfl ?_ | refine o_cl rfl ?_ | refine d_cl rfl ?_); (conv => arg 1; try simp only [go_sem, Nat.reduceEqDiff, reduceIte, Nat.reduceAdd, Nat.reduceLeDiff, Nat.reduceMul, Int.reduceEq, Int.reduceLT, Int.reduceLE, Int.reduceNeg, Int.reduceAdd, Int.reduceSub, Nat.reduceLT, Nat.reduceBEq, Nat.reduceSub, Nat.reducePow, q0, q1, hh, hhb, e1, e1', e2, e3, encs_len, encs_pur, shut_at]); first | refine zE3 ?_ | refine zE2 ?_ | refine zE4 ?_ | refine zE5 ?_ | refine zE6 ?_ | refine zE7 ?_ | refine zE8 ?_) | (refine b_s (fun hb => ?_) (fun hb => ?_) <;> ((try simp only [hn1, hn2, hn3, hn4] at hb); first | (exfalso; omega) | skip)) | (first | refine g_s (fun hb => ?_) (fun hb => ?_) | refine d_s (fun hb => ?_) (fun hb => ?_)) <;> ((try simp only [hn1, hn2] at hb); rw [hb]; try simp only [hn3, hn4] at hb)
      rfl
  · refine Pc_of (Gf_enter (C := Cf G) Tryz.func12 rfl ok12 (Nat.le_of_ble_eq_true rfl) ?_)
    simp only [Tryz.f12, Option.getD_some]
    simp only [enc]
    repeat' first | refine w_op rfl rfl ?_ | refine x_p rfl ?_ | refine w_sr ?_ | refine st_nil ?_ | refine w_seq ?_ | refine st_region ?_ | refine st_block ?_ | refine w_cond ?_ | refine b_t ?_ | refine b_f ?_ | refine st_skip ?_ | refine st_exit ?_ | refine st_ret ?_ | refine st_onNormN ?_ | refine st_onNormE ?_ | refine st_onNormR ?_ | refine st_onExitN ?_ | refine st_onExitR ?_ | refine st_onExitS ?_ | refine st_onExitO (by decide) ?_ | refine g_t ?_ | refine g_f rfl ?_ | refine o_op rfl ?_ | refine w_wr ?_ | refine w_wn ?_ | refine d_c rfl ?_ | refine d_on rfl ?_ | refine d_op rfl ?_ | refine d_y ?_ | refine d_gd rfl ?_ | refine d_t ?_ | refine d_f ?_ | refine d_nil ?_ | refine w_u false ?_ | refine w_dr rfl ?_ | refine d_q ?_ | refine n_0 rfl ?_ | refine d_n ?_ | refine k_p rfl rfl rfl rfl (h1) ?_ | refine w_gd rfl ?_ | ((first | refine zE1 ?_ | refine w_cl rfl rfl ?_ | refine o_cl rfl ?_ | refine d_cl rfl ?_); (conv => arg 1; try simp only [go_sem, Nat.reduceEqDiff, reduceIte, Nat.reduceAdd, Nat.reduceLeDiff, Nat.reduceMul, Int.reduceEq, Int.reduceLT, Int.reduceLE, Int.reduceNeg, Int.reduceAdd, Int.reduceSub, Nat.reduceLT, Nat.reduceBEq, Nat.reduceSub, Nat.reducePow, fillA]); first | refine zE3 ?_ | refine zE2 ?_ | refine zE4 ?_ | refine zE5 ?_ | refine zE6 ?_ | refine zE7 ?_ | refine zE8 ?_) | (refine b_s (fun hb => ?_) (fun hb => ?_) <;> ((try simp only [hn1, hn2, hn3, hn4] at hb); first | (exfalso; omega) | skip)) | (first | refine g_s (fun hb => ?_) (fun hb => ?_) | refine d_s (fun hb => ?_) (fun hb => ?_)) <;> ((try simp only [hn1, hn2] at hb); rw [hb]; try simp only [hn3, hn4] at hb)
    all_goals first | (rw [if_pos (by assumption)]; rfl) | (rw [if_neg (by omega), if_pos (by assumption)]; rfl) | (rw [if_neg (by omega), if_neg (by omega), if_pos (by assumption)]; rfl)
end Go.Proofs.Bv
/-
  What KindsFlat says, in plain words: flat down to a depth and then by one more is as flat by one more.
  Conditions: none.
-/
namespace Go.Proofs.Bv
open Go

/-! ### A value's parts may be where it may -/
mutual
theorem deep_stay : (v : JV) → (left : Int) → 0 ≤ left → deep v left < left → deep v (left + 1) = deep v left
  | .mk k _ _ _ _ l _, left, h0, h => by
    simp only [deep] at h ⊢
    by_cases hk : k ≠ 5 ∧ k ≠ 6
    · rw [if_pos (.inl hk), if_pos (.inl hk)]
    · by_cases hz : left = 0
      · rw [if_pos (.inr hz)] at h
        omega
      · rw [if_neg (by omega)] at h
        rw [if_neg (by omega), if_neg (by omega), show left + 1 - 1 = (left - 1) + 1 by omega]
        rw [deeps_stay l (left - 1) 0 (by omega) (by omega)]
theorem deeps_stay : (l : List JV) → (left n : Int) → 0 ≤ left → deeps l left n < left → deeps l (left + 1) n = deeps l left n
  | [], left, n, _, _ => rfl
  | x :: r, left, n, h0, h => by
    simp only [deeps] at h ⊢
    have hm : ∀ (l : List JV) (a : Int), a ≤ deeps l left a := by
      intro l
      induction l with
      | nil => intro a; exact Int.le_refl a
      | cons y l ih =>
        intro a
        simp only [deeps]
        have := ih (max a (deep y left))
        omega
    have h1 := hm r (max n (deep x left))
    rw [deep_stay x left h0 (by omega)]
    exact deeps_stay r left _ h0 h
end
theorem deeps_ge (left : Int) : (l : List JV) → (a : Int) → a ≤ deeps l left a ∧ ∀ x ∈ l, deep x left ≤ deeps l left a
  | [], a => ⟨Int.le_refl a, by simp⟩
  | y :: l, a => by
    obtain ⟨h1, h2⟩ := deeps_ge left l (max a (deep y left))
    simp only [deeps]
    refine ⟨by omega, fun x hx => ?_⟩
    rcases List.mem_cons.1 hx with rfl | hx
    · omega
    · exact h2 x hx
theorem sizes_ge : (l : List JV) → (a : Int) → 0 ≤ a → sizes l a < 1048576 → a ≤ sizes l a ∧ ∀ x ∈ l, size x ≤ sizes l a
  | [], a, _, _ => ⟨Int.le_refl a, by simp⟩
  | y :: l, a, ha, h => by
    have hy := size_rng y
    simp only [sizes] at h ⊢
    split at h
    · omega
    · rename_i hlt
      rw [if_neg hlt]
      obtain ⟨h1, h2⟩ := sizes_ge l (a + size y) (by omega) h
      refine ⟨by omega, fun x hx => ?_⟩
      rcases List.mem_cons.1 hx with rfl | hx
      · omega
      · exact h2 x hx
theorem firstErr_app' (a b : List JV) (h : firstErr (a ++ b) = 0) : firstErr a = 0 ∧ firstErr b = 0 := by
  induction a with
  | nil => exact ⟨rfl, h⟩
  | cons x a ih =>
    simp only [List.cons_append, firstErr] at h ⊢
    split at h
    · rename_i h0
      rw [if_pos h0]
      exact ih h
    · rename_i h0
      exact absurd h h0
theorem firstErr_pres : (l : List JV) → firstErr (pres l) = 0 → ∀ x ∈ l, firstErr (pre x) = 0
  | [], _, x, hx => by simp at hx
  | y :: l, h, x, hx => by
    simp only [pres] at h
    obtain ⟨h1, h2⟩ := firstErr_app' _ _ h
    rcases List.mem_cons.1 hx with rfl | hx
    · exact h1
    · exact firstErr_pres l h2 x hx
theorem chk_zero {v : JV} (h : chk v = 0) : deep v 1000 ≤ 64 ∧ size v ≤ 16384 ∧ firstErr (pre v) = 0 := by
  unfold chk at h
  split at h
  · omega
  · split at h
    · omega
    · exact ⟨by omega, by omega, h⟩
theorem chk_of {v : JV} (h1 : deep v 1000 ≤ 64) (h2 : size v ≤ 16384) (h3 : firstErr (pre v) = 0) : chk v = 0 := by
  unfold chk
  rw [if_neg (by omega), if_neg (by omega)]
  exact h3
theorem chk_own {v : JV} (h : chk v = 0) : own v = 0 := by
  obtain ⟨_, _, h3⟩ := chk_zero h
  obtain ⟨k, ng, cf, ex, t, l, ks⟩ := v
  simp only [pre, firstErr] at h3
  split at h3
  · assumption
  · rename_i h0
    exact absurd h3 h0
theorem chk_part {k : Int} {ng : Bool} {cf : List Int} {ex : Int} {t : ByteArray} {l : List JV} {ks : List ByteArray} (hk : k = 5 ∨ k = 6) (h : chk (.mk k ng cf ex t l ks) = 0) : ∀ x ∈ l, chk x = 0 := by
  intro x hx
  obtain ⟨h1, h2, h3⟩ := chk_zero h
  have e3 : firstErr (pre x) = 0 := by
    simp only [pre, firstErr] at h3
    split at h3
    · exact firstErr_pres l h3 x hx
    · rename_i h0
      exact absurd h3 h0
  have e2 : size x ≤ 16384 := by
    simp only [size] at h2
    have := (sizes_ge l 1 (by omega) (by omega)).2 x hx
    omega
  have e1 : deep x 1000 ≤ 64 := by
    simp only [deep] at h1
    rw [if_neg (by omega)] at h1
    have := (deeps_ge (1000 - 1) l 0).2 x hx
    have e := deep_stay x (1000 - 1) (by omega) (by omega)
    rw [show (1000 : Int) - 1 + 1 = 1000 by omega] at e
    omega
  exact chk_of e1 e2 e3

/-! ### What is put together -/
mutual
def fullV : JV → Nat → List JV
  | .mk k ng cf ex t l ks, d => if k = 5 ∧ 0 < d then full l (d - 1) else [.mk k ng cf ex t l ks]
def full : List JV → Nat → List JV
  | [], _ => []
  | x :: r, d => fullV x d ++ full r d
end
theorem full_app (a b : List JV) (d : Nat) : full (a ++ b) d = full a d ++ full b d := by
  induction a with
  | nil => simp [full]
  | cons x a ih => simp only [List.cons_append, full, ih, List.append_assoc]
mutual
theorem fullV_one : (v : JV) → (d : Nat) → full (fullV v d) 1 = fullV v (d + 1)
  | .mk k ng cf ex t l ks, d => by
    simp only [fullV]
    by_cases hk : k = 5
    · by_cases hd : 0 < d
      · rw [if_pos ⟨hk, hd⟩, if_pos ⟨hk, by omega⟩, full_one l (d - 1), show d - 1 + 1 = d by omega, show d + 1 - 1 = d by omega]
      · rw [if_neg (by omega), if_pos ⟨hk, by omega⟩]
        have e : d = 0 := by omega
        subst e
        simp only [full, fullV, List.append_nil]
        rw [if_pos ⟨hk, by omega⟩]
    · rw [if_neg (by omega), if_neg (by omega)]
      simp only [full, fullV, List.append_nil]
      rw [if_neg (by omega)]
theorem full_one : (l : List JV) → (d : Nat) → full (full l d) 1 = full l (d + 1)
  | [], d => by simp [full]
  | x :: r, d => by simp only [full, full_app, fullV_one x d, full_one r d]
end
theorem full_zero : (l : List JV) → full l 0 = l
  | [] => rfl
  | .mk k ng cf ex t l ks :: r => by
    simp only [full, fullV]
    rw [if_neg (by omega), full_zero r]
    rfl
/-- Put together, as long as it is taken. -/
def cutAt (l : List JV) : List JV × Bool := if l.length ≤ 4096 then (l, true) else (l.take 4097, false)
theorem cutAt_more {a b : List JV} (h : ¬ a.length ≤ 4096) : cutAt (a ++ b) = ((cutAt a).1, false) := by
  unfold cutAt
  rw [if_neg h, if_neg (by simp; omega)]
  simp only [Prod.mk.injEq, and_true]
  rw [List.take_append_of_le_length (by omega)]
mutual
theorem flV_full : (v : JV) → (d : Nat) → (acc : List JV) → acc.length ≤ 4096 → flV v d acc = cutAt (acc ++ fullV v d)
  | .mk k ng cf ex t l ks, d, acc, h => by
    simp only [flV, fullV]
    split
    · exact flL_full l (d - 1) acc h
    · unfold cutAt
      split
      · rename_i h1
        rw [decide_eq_true h1]
      · rename_i h1
        rw [decide_eq_false h1]
        rw [List.take_of_length_le (by simp; omega)]
theorem flL_full : (l : List JV) → (d : Nat) → (acc : List JV) → acc.length ≤ 4096 → flL l d acc = cutAt (acc ++ full l d)
  | [], d, acc, h => by simp [flL, full, cutAt, h]
  | x :: r, d, acc, h => by
    have hx := flV_full x d acc h
    simp only [flL, full]
    by_cases h1 : (acc ++ fullV x d).length ≤ 4096
    · have e : cutAt (acc ++ fullV x d) = (acc ++ fullV x d, true) := by unfold cutAt; rw [if_pos h1]
      rw [hx, e, if_pos rfl, flL_full r d (acc ++ fullV x d) h1, List.append_assoc]
    · have e : (cutAt (acc ++ fullV x d)).2 = false := by unfold cutAt; rw [if_neg h1]
      rw [hx, e, if_neg (by decide), ← List.append_assoc, cutAt_more h1]
end
end Go.Proofs.Bv
