/-
  A part of the proof of KindsBackUptoCardSaid: BkPrint, BkDec, BkShape, BkStrip, BkSettle, BkSettle2, BkWalk, BkWalk2.
  Conditions: those that each part names.
-/
import Derived.Test.YtegdndonafbcdaaGreatDoorKb17
set_option linter.unusedSimpArgs false
set_option linter.unusedVariables false
namespace Go.Proofs.Bv
open Go
theorem ok223 : codeOk 54 (Tryz.f223.body.getD .skip) = true := by kernel_rfl
def OutSl (a : AV) (h : Heap) (n : Nat) (cs : List AV) : Prop := (cs = [] ∧ a = .nilS) ∨ (cs ≠ [] ∧ ∃ b, a = .osl b 0 cs.length ∧ h b = some (.cells cs 1 false) ∧ b < n)
theorem bs8 (a : Int) : fillA (fun i => some (i * 1, 1)) (rep 1 [.sc (.int .u8 0)]) [(0, .sc (.int .u8 a))] = some [.sc (.int .u8 a)] := rfl
theorem digs_step {V r : Nat} (h : V = r) (hp : 0 < r) : digs V = r % 10 :: digs (r / 10) := by rw [h, digs_pos hp]
set_option maxHeartbeats 4000000 in
set_option maxRecDepth 100000 in
theorem pc223 (G : Nat → Option (List AV)) (a : List Int) (hc : natChk a = 0) (ha : Limbs a) :
    Pc (Cf G) 223 [.psl (u32s a) a.length] (.tup [.sc (.string (decStr (nv a).toNat)), .sc (.int .i64 0)]) := by
  obtain ⟨hta, hla⟩ := TopOk_of_chk hc
  have h160 := pc160 G a (by omega)
  rw [hc] at h160
  have hdl := digs_nv ha
  refine Pc_of (Gf_enter (C := Cf G) Tryz.func223 rfl ok223 (Nat.le_of_ble_eq_true rfl) ?_)
  simp only [Tryz.f223, Option.getD_some]
  refine wC1 trivial (wa h160 trivial) ?_
  refine Gc_loop_inv (fun m st => ∃ (ds : List Nat) (left : List Int), m = (nv left).toNat ∧ digs (nv a).toNat = ds ++ digs (nv left).toNat ∧ Limbs left ∧ TopOk left ∧ left.length ≤ 256 ∧ st.T 6 = .psl (u32s left) left.length ∧ OutSl (st.T 5) st.h st.n (u8s ds)) ?_ (nv a).toNat _ ⟨[], a, rfl, rfl, ha, hta, hla, ?_, ?_⟩
  · rintro m ⟨T, h, n⟩ ⟨ds, left, rfl, hd, hL, ht, hl, h6, ho⟩
    simp only at h6 ho
    have hdlen : ds.length ≤ 2560 := by
      have := congrArg List.length hd
      simp only [List.length_append] at this
      omega
    by_cases hle : left = []
    · subst hle
      have hds : ds = digs (nv a).toNat := by rw [hd]; simp [nv, digs_zero]
      rcases ho with ⟨hcs, h5⟩ | ⟨hcs, b, h5, hbk, hbn⟩
      · have hz : (nv a).toNat = 0 := by
          apply digs_nil.1
          rw [← hds]
          simpa [u8s] using hcs
        rw [hz]
        refine wB1 (wa h5 (wa h6 @OutSl.eq_1)) ?_
        simp only [one1, frz_t, mapF, frz_s, Option.map_some, List.append_nil]
        rfl
      · have hdne : ds ≠ [] := by
          rintro rfl
          exact hcs rfl
        have hdl2 : ds.length ≠ 0 := by
          intro e
          exact hdne (List.eq_nil_of_length_eq_zero e)
        have hne : ¬ ((u8s ds).length : Int) = 0 := by rw [u8s_len]; omega
        have hnz : (nv a).toNat ≠ 0 := by
          intro e
          rw [e, digs_zero] at hds
          exact hdne hds
        have hcut : cut (u8s ds).reverse 0 ((u8s ds).length * 1) = (u8s ds).reverse := by
          simp only [cut, List.drop_zero, Nat.mul_one]
          rw [List.take_of_length_le (by simp)]
        have hlen : (u8s ds).reverse.length = (u8s ds).length := by simp
        have hbl : (u8s ds).length * 1 ≤ (u8s ds).length := by omega
        have hby : bytesOf (u8s ds).reverse = some (ds.reverse.map dByte) := by
          rw [u8s_rev]
          apply bytesOf_u8s
          intro d hdm
          rw [List.mem_reverse, hds] at hdm
          exact digs_lt _ d hdm
        refine wB1 (wa h5 (wa h6 hne)) ?_
        refine st_walk rfl rfl rfl (by simp only [vop, val, argsT, upd_ap, Nat.reduceEqDiff, if_true, if_false, ite_true, ite_false, reduceIte, loadAt, loadA, AV.cells, AV.one, List.all_cons, List.all_nil, ofV, ofCell, plain, List.getElem?_cons_zero, List.getElem?_cons_succ, List.getElem?_toArray, Option.getD_some, Bool.not_true, Bool.not_false, Bool.false_eq_true, Bool.and_true, Bool.true_and, Bool.and_self, Nat.zero_add, Option.map_some, Option.bind_some, List.map_cons, List.map_nil, ev_add, ev_sub, ev_mul, ev_lss, ev_leq, ev_gtr, ev_geq, ev_eql, ev_neq, ev_seql, ev_sneq, ev_sleq, ev_slss, ev_not, ev_min, ev_max, asNat_nat, asNat_zero, asNat_one, asNat_two, asNat_three, vb_len, List.length_cons, List.length_nil, Nat.reduceAdd, Nat.reduceLeDiff, Nat.reduceMul, Int.reduceEq, Int.reduceLT, Int.reduceLE, Int.reduceNeg, Int.reduceAdd, Int.reduceSub, Nat.reduceLT, decide_true, decide_false, not_true_eq_false, not_false_eq_true, and_self, and_true, true_and, storeA, List.take_zero, List.drop_succ_cons, List.drop_zero, List.nil_append, List.append_nil, List.take_succ_cons, List.cons_append, cut_cons, cut_zero, cut_skip, tAt, hHide, hAt, upsAt, List.contains_cons, List.contains_nil, Nat.reduceBEq, Bool.or_true, Bool.true_or, Bool.or_false, Bool.false_or, Bool.or_self, Bool.and_true, Bool.true_and, Bool.and_false, Bool.false_and, beq_self_eq_true (α := Nat), Option.some_beq_some, Option.none_beq_some, Option.some_beq_none, Bool.false_eq_true, List.all_nil, touch, touchB, Nat.sub_self, List.range'_zero, Nat.add_sub_cancel_left, List.range'_one, h5]; with_reducible rfl) rfl rfl ?_
        refine gf282 G (u8s ds) (by intro x hx; simp only [u8s, List.mem_map] at hx; obtain ⟨d, _, rfl⟩ := hx; exact ⟨_, rfl⟩) (by rw [u8s_len]; omega) b hbk _ ?_
        refine st_gn (Nat.le_refl _) rfl ?_
        refine wB1 (wa h5 (wa hcut (wa hlen (wa hbl hby)))) ?_
        simp only [one1, frz_t, mapF, frz_s, Option.map_some, List.append_nil]
        rw [hds]
        simp only [decStr, if_neg hnz]
    · have hpos : (0 : Int) < (left.length : Int) := by
        have := List.length_pos_iff.2 hle
        omega
      have h281 := pc281 G left 1000000000 (by omega) hL (by omega)
      have hnvp := nv_pos hL ht hle
      have hq0 := nv_dmQ (show (0 : Int) < 1000000000 by omega) left
      have hqL := trim_limbs (dmQ_limbs (show (0 : Int) < 1000000000 by omega) hL)
      have hqt := trim_top (dmQ left 1000000000)
      have hql : (trimL (dmQ left 1000000000)).length ≤ 256 := by
        have := trim_len (dmQ left 1000000000)
        rw [dmQ_len] at this
        omega
      have hqv : nv (trimL (dmQ left 1000000000)) = nv left / 1000000000 := by rw [nv_trim, hq0]
      generalize trimL (dmQ left 1000000000) = q at *
      refine wC1 (wa h6 hpos) (wa h281 trivial) ?_
      refine Gc_loop_inv (fun m st => ∃ (ds : List Nat) (i r V : Nat), m = 9 - i ∧ i ≤ 9 ∧ r < 10 ^ (9 - i) ∧ V = (nv q).toNat * 10 ^ (9 - i) + r ∧ digs (nv a).toNat = ds ++ digs V ∧ st.T 7 = .psl (u32s q) q.length ∧ st.T 8 = .sc (.int .u32 r) ∧ st.T 9 = .sc (.int .i64 i) ∧ OutSl (st.T 5) st.h st.n (u8s ds)) ?_ 9 _ ⟨ds, 0, (nv left % 1000000000).toNat, (nv left).toNat, rfl, by omega, ?_, ?_, hd, ?_, ?_, ?_, ?_⟩
      · rintro m ⟨T, h, n⟩ ⟨ds, i, r, V, rfl, hi, hr1, hV, hd, h7, h8, h9, ho⟩
        simp only at h7 h8 h9 ho
        have hqn := nv_nonneg hqL
        have hdlen : ds.length ≤ 2560 := by
          have := congrArg List.length hd
          simp only [List.length_append] at this
          omega
        by_cases h9i : i = 9
        · subst h9i
          have hr : r = 0 := by simpa using hr1
          subst hr
          have hVq : V = (nv q).toNat := by simp [hV]
          have hge : ¬ (((9 : Nat) : Int) < 9) := by omega
          refine wB1 (wa h7 (wa h8 (wa h9 hge))) ?_
          exact ⟨(nv q).toNat, by rw [hqv]; omega, ds, q, rfl, by rw [← hVq]; exact hd, hqL, hqt, hql, by simp only [vop, val, argsT, upd_ap, Nat.reduceEqDiff, if_true, if_false, ite_true, ite_false, reduceIte, loadAt, loadA, AV.cells, AV.one, List.all_cons, List.all_nil, ofV, ofCell, plain, List.getElem?_cons_zero, List.getElem?_cons_succ, List.getElem?_toArray, Option.getD_some, Bool.not_true, Bool.not_false, Bool.false_eq_true, Bool.and_true, Bool.true_and, Bool.and_self, Nat.zero_add, Option.map_some, Option.bind_some, List.map_cons, List.map_nil, ev_add, ev_sub, ev_mul, ev_lss, ev_leq, ev_gtr, ev_geq, ev_eql, ev_neq, ev_seql, ev_sneq, ev_sleq, ev_slss, ev_not, ev_min, ev_max, asNat_nat, asNat_zero, asNat_one, asNat_two, asNat_three, vb_len, List.length_cons, List.length_nil, Nat.reduceAdd, Nat.reduceLeDiff, Nat.reduceMul, Int.reduceEq, Int.reduceLT, Int.reduceLE, Int.reduceNeg, Int.reduceAdd, Int.reduceSub, Nat.reduceLT, decide_true, decide_false, not_true_eq_false, not_false_eq_true, and_self, and_true, true_and, storeA, List.take_zero, List.drop_succ_cons, List.drop_zero, List.nil_append, List.append_nil, List.take_succ_cons, List.cons_append, cut_cons, cut_zero, cut_skip, tAt, hHide, hAt, upsAt, List.contains_cons, List.contains_nil, Nat.reduceBEq, Bool.or_true, Bool.true_or, Bool.or_false, Bool.false_or, Bool.or_self, Bool.and_true, Bool.true_and, Bool.and_false, Bool.false_and, beq_self_eq_true (α := Nat), Option.some_beq_some, Option.none_beq_some, Option.some_beq_none, Bool.false_eq_true, List.all_nil, touch, touchB, Nat.sub_self, List.range'_zero, Nat.add_sub_cancel_left, List.range'_one, h7], by simp only [vop, val, argsT, upd_ap, Nat.reduceEqDiff, if_true, if_false, ite_true, ite_false, reduceIte, loadAt, loadA, AV.cells, AV.one, List.all_cons, List.all_nil, ofV, ofCell, plain, List.getElem?_cons_zero, List.getElem?_cons_succ, List.getElem?_toArray, Option.getD_some, Bool.not_true, Bool.not_false, Bool.false_eq_true, Bool.and_true, Bool.true_and, Bool.and_self, Nat.zero_add, Option.map_some, Option.bind_some, List.map_cons, List.map_nil, ev_add, ev_sub, ev_mul, ev_lss, ev_leq, ev_gtr, ev_geq, ev_eql, ev_neq, ev_seql, ev_sneq, ev_sleq, ev_slss, ev_not, ev_min, ev_max, asNat_nat, asNat_zero, asNat_one, asNat_two, asNat_three, vb_len, List.length_cons, List.length_nil, Nat.reduceAdd, Nat.reduceLeDiff, Nat.reduceMul, Int.reduceEq, Int.reduceLT, Int.reduceLE, Int.reduceNeg, Int.reduceAdd, Int.reduceSub, Nat.reduceLT, decide_true, decide_false, not_true_eq_false, not_false_eq_true, and_self, and_true, true_and, storeA, List.take_zero, List.drop_succ_cons, List.drop_zero, List.nil_append, List.append_nil, List.take_succ_cons, List.cons_append, cut_cons, cut_zero, cut_skip, tAt, hHide, hAt, upsAt, List.contains_cons, List.contains_nil, Nat.reduceBEq, Bool.or_true, Bool.true_or, Bool.or_false, Bool.false_or, Bool.or_self, Bool.and_true, Bool.true_and, Bool.and_false, Bool.false_and, beq_self_eq_true (α := Nat), Option.some_beq_some, Option.none_beq_some, Option.some_beq_none, Bool.false_eq_true, List.all_nil, touch, touchB, Nat.sub_self, List.range'_zero, Nat.add_sub_cancel_left, List.range'_one]; exact ho⟩
        · obtain ⟨k, hk⟩ : ∃ k, 9 - i = k + 1 := ⟨9 - i - 1, by omega⟩
          have hlt : (i : Int) < 9 := by omega
          rw [hk, Nat.pow_succ] at hr1
          have hV2 : V = 10 * ((nv q).toNat * 10 ^ k) + r := by
            rw [hV, hk, Nat.pow_succ, ← Nat.mul_assoc, Nat.mul_comm _ 10]
          have hr32 : r < 1000000000 := by
            have h1 : 10 ^ (k + 1) ≤ 10 ^ 9 := Nat.pow_le_pow_right (by omega) (by omega)
            rw [Nat.pow_succ] at h1
            omega
          have w1 : (r : Int).tmod 10 = ((r % 10 : Nat) : Int) := by rw [Int.tmod_eq_emod_of_nonneg (by omega)]; omega
          have w2 : IntKind.u32.wrap (48 + ((r % 10 : Nat) : Int)) = 48 + ((r % 10 : Nat) : Int) := IntWalk.u32_in _ (by omega)
          have w3 : IntKind.u8.wrap (48 + ((r % 10 : Nat) : Int)) = 48 + ((r % 10 : Nat) : Int) := IntWalk.u8_in _ (by omega)
          have w4 : IntKind.u32.wrap ((r : Int).tdiv 10) = ((r / 10 : Nat) : Int) := by rw [Int.tdiv_eq_ediv_of_nonneg (by omega), IntWalk.u32_in _ (by omega)]; omega
          have w5 : IntKind.i64.wrap ((i : Int) + 1) = ((i + 1 : Nat) : Int) := by rw [i64 (by omega) (by omega)]; omega
          have step : 0 < V → digs (nv a).toNat = (ds ++ [r % 10]) ++ digs ((nv q).toNat * 10 ^ (9 - (i + 1)) + r / 10) := by
            intro hVp
            rw [hd, digs_pos hVp, show 9 - (i + 1) = k by omega, hV2, List.append_assoc]
            congr 1
            rw [show (10 * ((nv q).toNat * 10 ^ k) + r) % 10 = r % 10 by omega, show (10 * ((nv q).toNat * 10 ^ k) + r) / 10 = (nv q).toNat * 10 ^ k + r / 10 by omega]
            rfl
          have hr' : r / 10 < 10 ^ (9 - (i + 1)) := by
            rw [show 9 - (i + 1) = k by omega]
            omega
          by_cases hqe : q = []
          · by_cases hrz : r = 0
            · subst hqe; subst hrz
              have hVq : V = (nv ([] : List Int)).toNat := by simp [hV, nv]
              refine wB1 (wa h7 (wa h8 (wa h9 hlt))) ?_
              exact ⟨(nv ([] : List Int)).toNat, by simp [nv]; omega, ds, [], rfl, by rw [← hVq]; exact hd, hqL, hqt, hql, by simp only [vop, val, argsT, upd_ap, Nat.reduceEqDiff, if_true, if_false, ite_true, ite_false, reduceIte, loadAt, loadA, AV.cells, AV.one, List.all_cons, List.all_nil, ofV, ofCell, plain, List.getElem?_cons_zero, List.getElem?_cons_succ, List.getElem?_toArray, Option.getD_some, Bool.not_true, Bool.not_false, Bool.false_eq_true, Bool.and_true, Bool.true_and, Bool.and_self, Nat.zero_add, Option.map_some, Option.bind_some, List.map_cons, List.map_nil, ev_add, ev_sub, ev_mul, ev_lss, ev_leq, ev_gtr, ev_geq, ev_eql, ev_neq, ev_seql, ev_sneq, ev_sleq, ev_slss, ev_not, ev_min, ev_max, asNat_nat, asNat_zero, asNat_one, asNat_two, asNat_three, vb_len, List.length_cons, List.length_nil, Nat.reduceAdd, Nat.reduceLeDiff, Nat.reduceMul, Int.reduceEq, Int.reduceLT, Int.reduceLE, Int.reduceNeg, Int.reduceAdd, Int.reduceSub, Nat.reduceLT, decide_true, decide_false, not_true_eq_false, not_false_eq_true, and_self, and_true, true_and, storeA, List.take_zero, List.drop_succ_cons, List.drop_zero, List.nil_append, List.append_nil, List.take_succ_cons, List.cons_append, cut_cons, cut_zero, cut_skip, tAt, hHide, hAt, upsAt, List.contains_cons, List.contains_nil, Nat.reduceBEq, Bool.or_true, Bool.true_or, Bool.or_false, Bool.false_or, Bool.or_self, Bool.and_true, Bool.true_and, Bool.and_false, Bool.false_and, beq_self_eq_true (α := Nat), Option.some_beq_some, Option.none_beq_some, Option.some_beq_none, Bool.false_eq_true, List.all_nil, touch, touchB, Nat.sub_self, List.range'_zero, Nat.add_sub_cancel_left, List.range'_one, h7], by simp only [vop, val, argsT, upd_ap, Nat.reduceEqDiff, if_true, if_false, ite_true, ite_false, reduceIte, loadAt, loadA, AV.cells, AV.one, List.all_cons, List.all_nil, ofV, ofCell, plain, List.getElem?_cons_zero, List.getElem?_cons_succ, List.getElem?_toArray, Option.getD_some, Bool.not_true, Bool.not_false, Bool.false_eq_true, Bool.and_true, Bool.true_and, Bool.and_self, Nat.zero_add, Option.map_some, Option.bind_some, List.map_cons, List.map_nil, ev_add, ev_sub, ev_mul, ev_lss, ev_leq, ev_gtr, ev_geq, ev_eql, ev_neq, ev_seql, ev_sneq, ev_sleq, ev_slss, ev_not, ev_min, ev_max, asNat_nat, asNat_zero, asNat_one, asNat_two, asNat_three, vb_len, List.length_cons, List.length_nil, Nat.reduceAdd, Nat.reduceLeDiff, Nat.reduceMul, Int.reduceEq, Int.reduceLT, Int.reduceLE, Int.reduceNeg, Int.reduceAdd, Int.reduceSub, Nat.reduceLT, decide_true, decide_false, not_true_eq_false, not_false_eq_true, and_self, and_true, true_and, storeA, List.take_zero, List.drop_succ_cons, List.drop_zero, List.nil_append, List.append_nil, List.take_succ_cons, List.cons_append, cut_cons, cut_zero, cut_skip, tAt, hHide, hAt, upsAt, List.contains_cons, List.contains_nil, Nat.reduceBEq, Bool.or_true, Bool.true_or, Bool.or_false, Bool.false_or, Bool.or_self, Bool.and_true, Bool.true_and, Bool.and_false, Bool.false_and, beq_self_eq_true (α := Nat), Option.some_beq_some, Option.none_beq_some, Option.some_beq_none, Bool.false_eq_true, List.all_nil, touch, touchB, Nat.sub_self, List.range'_zero, Nat.add_sub_cancel_left, List.range'_one]; exact ho⟩
            · have hrp : (0 : Int) < (r : Int) := by omega
              have hVp : 0 < V := by omega
              subst hqe
              have hl1 : (u8s ds).length * 1 ≤ (u8s ds).length := by omega
              have hl2 : ((u8s ds).length + 1) * 1 ≤ 140737488355328 := by rw [u8s_len]; omega
              have hl3 : (u8s ds).length + 1 ≤ 140737488355328 := by rw [u8s_len]; omega
              have hcut0 : cut (u8s ds) 0 ((u8s ds).length * 1) = u8s ds := by
                simp only [cut, List.drop_zero, Nat.mul_one]
                rw [List.take_of_length_le (by simp)]
              have hsn : u8s (ds ++ [r % 10]) = u8s ds ++ [.sc (.int .u8 (48 + ((r % 10 : Nat) : Int)))] := u8s_app ds [r % 10]
              rcases ho with ⟨hcs, h5⟩ | ⟨hcs, b, h5, hbk, hbn⟩
              · refine wB1 (wa h5 (wa h7 (wa h8 (wa h9 (wa hlt (wa hrp (wa w1 (wa w2 (wa w3 (wa w4 (wa w5 (wa @bs8 @Nat.one_ne_zero)))))))))))) ?_
                refine ⟨9 - (i + 1), by omega, ds ++ [r % 10], i + 1, r / 10, (nv ([] : List Int)).toNat * 10 ^ (9 - (i + 1)) + r / 10, rfl, by omega, hr', rfl, step hVp, ?_, ?_, ?_, ?_⟩
                · simp only [vop, val, argsT, upd_ap, Nat.reduceEqDiff, if_true, if_false, ite_true, ite_false, reduceIte, loadAt, loadA, AV.cells, AV.one, List.all_cons, List.all_nil, ofV, ofCell, plain, List.getElem?_cons_zero, List.getElem?_cons_succ, List.getElem?_toArray, Option.getD_some, Bool.not_true, Bool.not_false, Bool.false_eq_true, Bool.and_true, Bool.true_and, Bool.and_self, Nat.zero_add, Option.map_some, Option.bind_some, List.map_cons, List.map_nil, ev_add, ev_sub, ev_mul, ev_lss, ev_leq, ev_gtr, ev_geq, ev_eql, ev_neq, ev_seql, ev_sneq, ev_sleq, ev_slss, ev_not, ev_min, ev_max, asNat_nat, asNat_zero, asNat_one, asNat_two, asNat_three, vb_len, List.length_cons, List.length_nil, Nat.reduceAdd, Nat.reduceLeDiff, Nat.reduceMul, Int.reduceEq, Int.reduceLT, Int.reduceLE, Int.reduceNeg, Int.reduceAdd, Int.reduceSub, Nat.reduceLT, decide_true, decide_false, not_true_eq_false, not_false_eq_true, and_self, and_true, true_and, storeA, List.take_zero, List.drop_succ_cons, List.drop_zero, List.nil_append, List.append_nil, List.take_succ_cons, List.cons_append, cut_cons, cut_zero, cut_skip, tAt, hHide, hAt, upsAt, List.contains_cons, List.contains_nil, Nat.reduceBEq, Bool.or_true, Bool.true_or, Bool.or_false, Bool.false_or, Bool.or_self, Bool.and_true, Bool.true_and, Bool.and_false, Bool.false_and, beq_self_eq_true (α := Nat), Option.some_beq_some, Option.none_beq_some, Option.some_beq_none, Bool.false_eq_true, List.all_nil, touch, touchB, Nat.sub_self, List.range'_zero, Nat.add_sub_cancel_left, List.range'_one, h7, List.length_nil]
                · simp only [vop, val, argsT, upd_ap, Nat.reduceEqDiff, if_true, if_false, ite_true, ite_false, reduceIte, loadAt, loadA, AV.cells, AV.one, List.all_cons, List.all_nil, ofV, ofCell, plain, List.getElem?_cons_zero, List.getElem?_cons_succ, List.getElem?_toArray, Option.getD_some, Bool.not_true, Bool.not_false, Bool.false_eq_true, Bool.and_true, Bool.true_and, Bool.and_self, Nat.zero_add, Option.map_some, Option.bind_some, List.map_cons, List.map_nil, ev_add, ev_sub, ev_mul, ev_lss, ev_leq, ev_gtr, ev_geq, ev_eql, ev_neq, ev_seql, ev_sneq, ev_sleq, ev_slss, ev_not, ev_min, ev_max, asNat_nat, asNat_zero, asNat_one, asNat_two, asNat_three, vb_len, List.length_cons, List.length_nil, Nat.reduceAdd, Nat.reduceLeDiff, Nat.reduceMul, Int.reduceEq, Int.reduceLT, Int.reduceLE, Int.reduceNeg, Int.reduceAdd, Int.reduceSub, Nat.reduceLT, decide_true, decide_false, not_true_eq_false, not_false_eq_true, and_self, and_true, true_and, storeA, List.take_zero, List.drop_succ_cons, List.drop_zero, List.nil_append, List.append_nil, List.take_succ_cons, List.cons_append, cut_cons, cut_zero, cut_skip, tAt, hHide, hAt, upsAt, List.contains_cons, List.contains_nil, Nat.reduceBEq, Bool.or_true, Bool.true_or, Bool.or_false, Bool.false_or, Bool.or_self, Bool.and_true, Bool.true_and, Bool.and_false, Bool.false_and, beq_self_eq_true (α := Nat), Option.some_beq_some, Option.none_beq_some, Option.some_beq_none, Bool.false_eq_true, List.all_nil, touch, touchB, Nat.sub_self, List.range'_zero, Nat.add_sub_cancel_left, List.range'_one]
                · simp only [vop, val, argsT, upd_ap, Nat.reduceEqDiff, if_true, if_false, ite_true, ite_false, reduceIte, loadAt, loadA, AV.cells, AV.one, List.all_cons, List.all_nil, ofV, ofCell, plain, List.getElem?_cons_zero, List.getElem?_cons_succ, List.getElem?_toArray, Option.getD_some, Bool.not_true, Bool.not_false, Bool.false_eq_true, Bool.and_true, Bool.true_and, Bool.and_self, Nat.zero_add, Option.map_some, Option.bind_some, List.map_cons, List.map_nil, ev_add, ev_sub, ev_mul, ev_lss, ev_leq, ev_gtr, ev_geq, ev_eql, ev_neq, ev_seql, ev_sneq, ev_sleq, ev_slss, ev_not, ev_min, ev_max, asNat_nat, asNat_zero, asNat_one, asNat_two, asNat_three, vb_len, List.length_cons, List.length_nil, Nat.reduceAdd, Nat.reduceLeDiff, Nat.reduceMul, Int.reduceEq, Int.reduceLT, Int.reduceLE, Int.reduceNeg, Int.reduceAdd, Int.reduceSub, Nat.reduceLT, decide_true, decide_false, not_true_eq_false, not_false_eq_true, and_self, and_true, true_and, storeA, List.take_zero, List.drop_succ_cons, List.drop_zero, List.nil_append, List.append_nil, List.take_succ_cons, List.cons_append, cut_cons, cut_zero, cut_skip, tAt, hHide, hAt, upsAt, List.contains_cons, List.contains_nil, Nat.reduceBEq, Bool.or_true, Bool.true_or, Bool.or_false, Bool.false_or, Bool.or_self, Bool.and_true, Bool.true_and, Bool.and_false, Bool.false_and, beq_self_eq_true (α := Nat), Option.some_beq_some, Option.none_beq_some, Option.some_beq_none, Bool.false_eq_true, List.all_nil, touch, touchB, Nat.sub_self, List.range'_zero, Nat.add_sub_cancel_left, List.range'_one]
                · rw [hsn, hcs]
                  exact .inr ⟨by simp, n + 1, by simp only [vop, val, argsT, upd_ap, Nat.reduceEqDiff, if_true, if_false, ite_true, ite_false, reduceIte, loadAt, loadA, AV.cells, AV.one, List.all_cons, List.all_nil, ofV, ofCell, plain, List.getElem?_cons_zero, List.getElem?_cons_succ, List.getElem?_toArray, Option.getD_some, Bool.not_true, Bool.not_false, Bool.false_eq_true, Bool.and_true, Bool.true_and, Bool.and_self, Nat.zero_add, Option.map_some, Option.bind_some, List.map_cons, List.map_nil, ev_add, ev_sub, ev_mul, ev_lss, ev_leq, ev_gtr, ev_geq, ev_eql, ev_neq, ev_seql, ev_sneq, ev_sleq, ev_slss, ev_not, ev_min, ev_max, asNat_nat, asNat_zero, asNat_one, asNat_two, asNat_three, vb_len, List.length_cons, List.length_nil, Nat.reduceAdd, Nat.reduceLeDiff, Nat.reduceMul, Int.reduceEq, Int.reduceLT, Int.reduceLE, Int.reduceNeg, Int.reduceAdd, Int.reduceSub, Nat.reduceLT, decide_true, decide_false, not_true_eq_false, not_false_eq_true, and_self, and_true, true_and, storeA, List.take_zero, List.drop_succ_cons, List.drop_zero, List.nil_append, List.append_nil, List.take_succ_cons, List.cons_append, cut_cons, cut_zero, cut_skip, tAt, hHide, hAt, upsAt, List.contains_cons, List.contains_nil, Nat.reduceBEq, Bool.or_true, Bool.true_or, Bool.or_false, Bool.false_or, Bool.or_self, Bool.and_true, Bool.true_and, Bool.and_false, Bool.false_and, beq_self_eq_true (α := Nat), Option.some_beq_some, Option.none_beq_some, Option.some_beq_none, Bool.false_eq_true, List.all_nil, touch, touchB, Nat.sub_self, List.range'_zero, Nat.add_sub_cancel_left, List.range'_one], by simp only [vop, val, argsT, upd_ap, Nat.reduceEqDiff, if_true, if_false, ite_true, ite_false, reduceIte, loadAt, loadA, AV.cells, AV.one, List.all_cons, List.all_nil, ofV, ofCell, plain, List.getElem?_cons_zero, List.getElem?_cons_succ, List.getElem?_toArray, Option.getD_some, Bool.not_true, Bool.not_false, Bool.false_eq_true, Bool.and_true, Bool.true_and, Bool.and_self, Nat.zero_add, Option.map_some, Option.bind_some, List.map_cons, List.map_nil, ev_add, ev_sub, ev_mul, ev_lss, ev_leq, ev_gtr, ev_geq, ev_eql, ev_neq, ev_seql, ev_sneq, ev_sleq, ev_slss, ev_not, ev_min, ev_max, asNat_nat, asNat_zero, asNat_one, asNat_two, asNat_three, vb_len, List.length_cons, List.length_nil, Nat.reduceAdd, Nat.reduceLeDiff, Nat.reduceMul, Int.reduceEq, Int.reduceLT, Int.reduceLE, Int.reduceNeg, Int.reduceAdd, Int.reduceSub, Nat.reduceLT, decide_true, decide_false, not_true_eq_false, not_false_eq_true, and_self, and_true, true_and, storeA, List.take_zero, List.drop_succ_cons, List.drop_zero, List.nil_append, List.append_nil, List.take_succ_cons, List.cons_append, cut_cons, cut_zero, cut_skip, tAt, hHide, hAt, upsAt, List.contains_cons, List.contains_nil, Nat.reduceBEq, Bool.or_true, Bool.true_or, Bool.or_false, Bool.false_or, Bool.or_self, Bool.and_true, Bool.true_and, Bool.and_false, Bool.false_and, beq_self_eq_true (α := Nat), Option.some_beq_some, Option.none_beq_some, Option.some_beq_none, Bool.false_eq_true, List.all_nil, touch, touchB, Nat.sub_self, List.range'_zero, Nat.add_sub_cancel_left, List.range'_one], by simp⟩
              · have hbne : ¬ b = n := by omega
                have hbne1 : ¬ n + 1 = b := by omega
                refine wB1 (wa h5 (wa h7 (wa h8 (wa h9 (wa hlt (wa hrp (wa w1 (wa w2 (wa w3 (wa w4 (wa w5 (wa @bs8 (wa @Nat.one_ne_zero (wa hbk (wa hbne (wa hl1 (wa hl2 (wa hl3 hcut0)))))))))))))))))) ?_
                refine ⟨9 - (i + 1), by omega, ds ++ [r % 10], i + 1, r / 10, (nv ([] : List Int)).toNat * 10 ^ (9 - (i + 1)) + r / 10, rfl, by omega, hr', rfl, step hVp, ?_, ?_, ?_, ?_⟩
                · simp only [vop, val, argsT, upd_ap, Nat.reduceEqDiff, if_true, if_false, ite_true, ite_false, reduceIte, loadAt, loadA, AV.cells, AV.one, List.all_cons, List.all_nil, ofV, ofCell, plain, List.getElem?_cons_zero, List.getElem?_cons_succ, List.getElem?_toArray, Option.getD_some, Bool.not_true, Bool.not_false, Bool.false_eq_true, Bool.and_true, Bool.true_and, Bool.and_self, Nat.zero_add, Option.map_some, Option.bind_some, List.map_cons, List.map_nil, ev_add, ev_sub, ev_mul, ev_lss, ev_leq, ev_gtr, ev_geq, ev_eql, ev_neq, ev_seql, ev_sneq, ev_sleq, ev_slss, ev_not, ev_min, ev_max, asNat_nat, asNat_zero, asNat_one, asNat_two, asNat_three, vb_len, List.length_cons, List.length_nil, Nat.reduceAdd, Nat.reduceLeDiff, Nat.reduceMul, Int.reduceEq, Int.reduceLT, Int.reduceLE, Int.reduceNeg, Int.reduceAdd, Int.reduceSub, Nat.reduceLT, decide_true, decide_false, not_true_eq_false, not_false_eq_true, and_self, and_true, true_and, storeA, List.take_zero, List.drop_succ_cons, List.drop_zero, List.nil_append, List.append_nil, List.take_succ_cons, List.cons_append, cut_cons, cut_zero, cut_skip, tAt, hHide, hAt, upsAt, List.contains_cons, List.contains_nil, Nat.reduceBEq, Bool.or_true, Bool.true_or, Bool.or_false, Bool.false_or, Bool.or_self, Bool.and_true, Bool.true_and, Bool.and_false, Bool.false_and, beq_self_eq_true (α := Nat), Option.some_beq_some, Option.none_beq_some, Option.some_beq_none, Bool.false_eq_true, List.all_nil, touch, touchB, Nat.sub_self, List.range'_zero, Nat.add_sub_cancel_left, List.range'_one, h7, List.length_nil]
                · simp only [vop, val, argsT, upd_ap, Nat.reduceEqDiff, if_true, if_false, ite_true, ite_false, reduceIte, loadAt, loadA, AV.cells, AV.one, List.all_cons, List.all_nil, ofV, ofCell, plain, List.getElem?_cons_zero, List.getElem?_cons_succ, List.getElem?_toArray, Option.getD_some, Bool.not_true, Bool.not_false, Bool.false_eq_true, Bool.and_true, Bool.true_and, Bool.and_self, Nat.zero_add, Option.map_some, Option.bind_some, List.map_cons, List.map_nil, ev_add, ev_sub, ev_mul, ev_lss, ev_leq, ev_gtr, ev_geq, ev_eql, ev_neq, ev_seql, ev_sneq, ev_sleq, ev_slss, ev_not, ev_min, ev_max, asNat_nat, asNat_zero, asNat_one, asNat_two, asNat_three, vb_len, List.length_cons, List.length_nil, Nat.reduceAdd, Nat.reduceLeDiff, Nat.reduceMul, Int.reduceEq, Int.reduceLT, Int.reduceLE, Int.reduceNeg, Int.reduceAdd, Int.reduceSub, Nat.reduceLT, decide_true, decide_false, not_true_eq_false, not_false_eq_true, and_self, and_true, true_and, storeA, List.take_zero, List.drop_succ_cons, List.drop_zero, List.nil_append, List.append_nil, List.take_succ_cons, List.cons_append, cut_cons, cut_zero, cut_skip, tAt, hHide, hAt, upsAt, List.contains_cons, List.contains_nil, Nat.reduceBEq, Bool.or_true, Bool.true_or, Bool.or_false, Bool.false_or, Bool.or_self, Bool.and_true, Bool.true_and, Bool.and_false, Bool.false_and, beq_self_eq_true (α := Nat), Option.some_beq_some, Option.none_beq_some, Option.some_beq_none, Bool.false_eq_true, List.all_nil, touch, touchB, Nat.sub_self, List.range'_zero, Nat.add_sub_cancel_left, List.range'_one]
                · simp only [vop, val, argsT, upd_ap, Nat.reduceEqDiff, if_true, if_false, ite_true, ite_false, reduceIte, loadAt, loadA, AV.cells, AV.one, List.all_cons, List.all_nil, ofV, ofCell, plain, List.getElem?_cons_zero, List.getElem?_cons_succ, List.getElem?_toArray, Option.getD_some, Bool.not_true, Bool.not_false, Bool.false_eq_true, Bool.and_true, Bool.true_and, Bool.and_self, Nat.zero_add, Option.map_some, Option.bind_some, List.map_cons, List.map_nil, ev_add, ev_sub, ev_mul, ev_lss, ev_leq, ev_gtr, ev_geq, ev_eql, ev_neq, ev_seql, ev_sneq, ev_sleq, ev_slss, ev_not, ev_min, ev_max, asNat_nat, asNat_zero, asNat_one, asNat_two, asNat_three, vb_len, List.length_cons, List.length_nil, Nat.reduceAdd, Nat.reduceLeDiff, Nat.reduceMul, Int.reduceEq, Int.reduceLT, Int.reduceLE, Int.reduceNeg, Int.reduceAdd, Int.reduceSub, Nat.reduceLT, decide_true, decide_false, not_true_eq_false, not_false_eq_true, and_self, and_true, true_and, storeA, List.take_zero, List.drop_succ_cons, List.drop_zero, List.nil_append, List.append_nil, List.take_succ_cons, List.cons_append, cut_cons, cut_zero, cut_skip, tAt, hHide, hAt, upsAt, List.contains_cons, List.contains_nil, Nat.reduceBEq, Bool.or_true, Bool.true_or, Bool.or_false, Bool.false_or, Bool.or_self, Bool.and_true, Bool.true_and, Bool.and_false, Bool.false_and, beq_self_eq_true (α := Nat), Option.some_beq_some, Option.none_beq_some, Option.some_beq_none, Bool.false_eq_true, List.all_nil, touch, touchB, Nat.sub_self, List.range'_zero, Nat.add_sub_cancel_left, List.range'_one]
                · rw [hsn]
                  exact .inr ⟨by simp, n + 1, by simp only [vop, val, argsT, upd_ap, Nat.reduceEqDiff, if_true, if_false, ite_true, ite_false, reduceIte, loadAt, loadA, AV.cells, AV.one, List.all_cons, List.all_nil, ofV, ofCell, plain, List.getElem?_cons_zero, List.getElem?_cons_succ, List.getElem?_toArray, Option.getD_some, Bool.not_true, Bool.not_false, Bool.false_eq_true, Bool.and_true, Bool.true_and, Bool.and_self, Nat.zero_add, Option.map_some, Option.bind_some, List.map_cons, List.map_nil, ev_add, ev_sub, ev_mul, ev_lss, ev_leq, ev_gtr, ev_geq, ev_eql, ev_neq, ev_seql, ev_sneq, ev_sleq, ev_slss, ev_not, ev_min, ev_max, asNat_nat, asNat_zero, asNat_one, asNat_two, asNat_three, vb_len, List.length_cons, List.length_nil, Nat.reduceAdd, Nat.reduceLeDiff, Nat.reduceMul, Int.reduceEq, Int.reduceLT, Int.reduceLE, Int.reduceNeg, Int.reduceAdd, Int.reduceSub, Nat.reduceLT, decide_true, decide_false, not_true_eq_false, not_false_eq_true, and_self, and_true, true_and, storeA, List.take_zero, List.drop_succ_cons, List.drop_zero, List.nil_append, List.append_nil, List.take_succ_cons, List.cons_append, cut_cons, cut_zero, cut_skip, tAt, hHide, hAt, upsAt, List.contains_cons, List.contains_nil, Nat.reduceBEq, Bool.or_true, Bool.true_or, Bool.or_false, Bool.false_or, Bool.or_self, Bool.and_true, Bool.true_and, Bool.and_false, Bool.false_and, beq_self_eq_true (α := Nat), Option.some_beq_some, Option.none_beq_some, Option.some_beq_none, Bool.false_eq_true, List.all_nil, touch, touchB, Nat.sub_self, List.range'_zero, Nat.add_sub_cancel_left, List.range'_one, List.length_append], by simp only [vop, val, argsT, upd_ap, Nat.reduceEqDiff, if_true, if_false, ite_true, ite_false, reduceIte, loadAt, loadA, AV.cells, AV.one, List.all_cons, List.all_nil, ofV, ofCell, plain, List.getElem?_cons_zero, List.getElem?_cons_succ, List.getElem?_toArray, Option.getD_some, Bool.not_true, Bool.not_false, Bool.false_eq_true, Bool.and_true, Bool.true_and, Bool.and_self, Nat.zero_add, Option.map_some, Option.bind_some, List.map_cons, List.map_nil, ev_add, ev_sub, ev_mul, ev_lss, ev_leq, ev_gtr, ev_geq, ev_eql, ev_neq, ev_seql, ev_sneq, ev_sleq, ev_slss, ev_not, ev_min, ev_max, asNat_nat, asNat_zero, asNat_one, asNat_two, asNat_three, vb_len, List.length_cons, List.length_nil, Nat.reduceAdd, Nat.reduceLeDiff, Nat.reduceMul, Int.reduceEq, Int.reduceLT, Int.reduceLE, Int.reduceNeg, Int.reduceAdd, Int.reduceSub, Nat.reduceLT, decide_true, decide_false, not_true_eq_false, not_false_eq_true, and_self, and_true, true_and, storeA, List.take_zero, List.drop_succ_cons, List.drop_zero, List.nil_append, List.append_nil, List.take_succ_cons, List.cons_append, cut_cons, cut_zero, cut_skip, tAt, hHide, hAt, upsAt, List.contains_cons, List.contains_nil, Nat.reduceBEq, Bool.or_true, Bool.true_or, Bool.or_false, Bool.false_or, Bool.or_self, Bool.and_true, Bool.true_and, Bool.and_false, Bool.false_and, beq_self_eq_true (α := Nat), Option.some_beq_some, Option.none_beq_some, Option.some_beq_none, Bool.false_eq_true, List.all_nil, touch, touchB, Nat.sub_self, List.range'_zero, Nat.add_sub_cancel_left, List.range'_one], by simp⟩
          · have hqp : (0 : Int) < (q.length : Int) := by
              have := List.length_pos_iff.2 hqe
              omega
            have hnp := nv_pos hqL hqt hqe
            have hVp : 0 < V := by
              have h1 : 0 < (nv q).toNat := by omega
              have h2 : 0 < 10 ^ k := Nat.pow_pos (by omega)
              have := Nat.mul_pos h1 h2
              omega
            have hl1 : (u8s ds).length * 1 ≤ (u8s ds).length := by omega
            have hl2 : ((u8s ds).length + 1) * 1 ≤ 140737488355328 := by rw [u8s_len]; omega
            have hl3 : (u8s ds).length + 1 ≤ 140737488355328 := by rw [u8s_len]; omega
            have hcut0 : cut (u8s ds) 0 ((u8s ds).length * 1) = u8s ds := by
              simp only [cut, List.drop_zero, Nat.mul_one]
              rw [List.take_of_length_le (by simp)]
            have hsn : u8s (ds ++ [r % 10]) = u8s ds ++ [.sc (.int .u8 (48 + ((r % 10 : Nat) : Int)))] := u8s_app ds [r % 10]
            rcases ho with ⟨hcs, h5⟩ | ⟨hcs, b, h5, hbk, hbn⟩
            · refine wB1 (wa h5 (wa h7 (wa h8 (wa h9 (wa hlt (wa hqp (wa w1 (wa w2 (wa w3 (wa w4 (wa w5 (wa @bs8 @Nat.one_ne_zero)))))))))))) ?_
              refine ⟨9 - (i + 1), by omega, ds ++ [r % 10], i + 1, r / 10, (nv q).toNat * 10 ^ (9 - (i + 1)) + r / 10, rfl, by omega, hr', rfl, step hVp, ?_, ?_, ?_, ?_⟩
              · simp only [vop, val, argsT, upd_ap, Nat.reduceEqDiff, if_true, if_false, ite_true, ite_false, reduceIte, loadAt, loadA, AV.cells, AV.one, List.all_cons, List.all_nil, ofV, ofCell, plain, List.getElem?_cons_zero, List.getElem?_cons_succ, List.getElem?_toArray, Option.getD_some, Bool.not_true, Bool.not_false, Bool.false_eq_true, Bool.and_true, Bool.true_and, Bool.and_self, Nat.zero_add, Option.map_some, Option.bind_some, List.map_cons, List.map_nil, ev_add, ev_sub, ev_mul, ev_lss, ev_leq, ev_gtr, ev_geq, ev_eql, ev_neq, ev_seql, ev_sneq, ev_sleq, ev_slss, ev_not, ev_min, ev_max, asNat_nat, asNat_zero, asNat_one, asNat_two, asNat_three, vb_len, List.length_cons, List.length_nil, Nat.reduceAdd, Nat.reduceLeDiff, Nat.reduceMul, Int.reduceEq, Int.reduceLT, Int.reduceLE, Int.reduceNeg, Int.reduceAdd, Int.reduceSub, Nat.reduceLT, decide_true, decide_false, not_true_eq_false, not_false_eq_true, and_self, and_true, true_and, storeA, List.take_zero, List.drop_succ_cons, List.drop_zero, List.nil_append, List.append_nil, List.take_succ_cons, List.cons_append, cut_cons, cut_zero, cut_skip, tAt, hHide, hAt, upsAt, List.contains_cons, List.contains_nil, Nat.reduceBEq, Bool.or_true, Bool.true_or, Bool.or_false, Bool.false_or, Bool.or_self, Bool.and_true, Bool.true_and, Bool.and_false, Bool.false_and, beq_self_eq_true (α := Nat), Option.some_beq_some, Option.none_beq_some, Option.some_beq_none, Bool.false_eq_true, List.all_nil, touch, touchB, Nat.sub_self, List.range'_zero, Nat.add_sub_cancel_left, List.range'_one, h7, List.length_nil]
              · simp only [vop, val, argsT, upd_ap, Nat.reduceEqDiff, if_true, if_false, ite_true, ite_false, reduceIte, loadAt, loadA, AV.cells, AV.one, List.all_cons, List.all_nil, ofV, ofCell, plain, List.getElem?_cons_zero, List.getElem?_cons_succ, List.getElem?_toArray, Option.getD_some, Bool.not_true, Bool.not_false, Bool.false_eq_true, Bool.and_true, Bool.true_and, Bool.and_self, Nat.zero_add, Option.map_some, Option.bind_some, List.map_cons, List.map_nil, ev_add, ev_sub, ev_mul, ev_lss, ev_leq, ev_gtr, ev_geq, ev_eql, ev_neq, ev_seql, ev_sneq, ev_sleq, ev_slss, ev_not, ev_min, ev_max, asNat_nat, asNat_zero, asNat_one, asNat_two, asNat_three, vb_len, List.length_cons, List.length_nil, Nat.reduceAdd, Nat.reduceLeDiff, Nat.reduceMul, Int.reduceEq, Int.reduceLT, Int.reduceLE, Int.reduceNeg, Int.reduceAdd, Int.reduceSub, Nat.reduceLT, decide_true, decide_false, not_true_eq_false, not_false_eq_true, and_self, and_true, true_and, storeA, List.take_zero, List.drop_succ_cons, List.drop_zero, List.nil_append, List.append_nil, List.take_succ_cons, List.cons_append, cut_cons, cut_zero, cut_skip, tAt, hHide, hAt, upsAt, List.contains_cons, List.contains_nil, Nat.reduceBEq, Bool.or_true, Bool.true_or, Bool.or_false, Bool.false_or, Bool.or_self, Bool.and_true, Bool.true_and, Bool.and_false, Bool.false_and, beq_self_eq_true (α := Nat), Option.some_beq_some, Option.none_beq_some, Option.some_beq_none, Bool.false_eq_true, List.all_nil, touch, touchB, Nat.sub_self, List.range'_zero, Nat.add_sub_cancel_left, List.range'_one]
              · simp only [vop, val, argsT, upd_ap, Nat.reduceEqDiff, if_true, if_false, ite_true, ite_false, reduceIte, loadAt, loadA, AV.cells, AV.one, List.all_cons, List.all_nil, ofV, ofCell, plain, List.getElem?_cons_zero, List.getElem?_cons_succ, List.getElem?_toArray, Option.getD_some, Bool.not_true, Bool.not_false, Bool.false_eq_true, Bool.and_true, Bool.true_and, Bool.and_self, Nat.zero_add, Option.map_some, Option.bind_some, List.map_cons, List.map_nil, ev_add, ev_sub, ev_mul, ev_lss, ev_leq, ev_gtr, ev_geq, ev_eql, ev_neq, ev_seql, ev_sneq, ev_sleq, ev_slss, ev_not, ev_min, ev_max, asNat_nat, asNat_zero, asNat_one, asNat_two, asNat_three, vb_len, List.length_cons, List.length_nil, Nat.reduceAdd, Nat.reduceLeDiff, Nat.reduceMul, Int.reduceEq, Int.reduceLT, Int.reduceLE, Int.reduceNeg, Int.reduceAdd, Int.reduceSub, Nat.reduceLT, decide_true, decide_false, not_true_eq_false, not_false_eq_true, and_self, and_true, true_and, storeA, List.take_zero, List.drop_succ_cons, List.drop_zero, List.nil_append, List.append_nil, List.take_succ_cons, List.cons_append, cut_cons, cut_zero, cut_skip, tAt, hHide, hAt, upsAt, List.contains_cons, List.contains_nil, Nat.reduceBEq, Bool.or_true, Bool.true_or, Bool.or_false, Bool.false_or, Bool.or_self, Bool.and_true, Bool.true_and, Bool.and_false, Bool.false_and, beq_self_eq_true (α := Nat), Option.some_beq_some, Option.none_beq_some, Option.some_beq_none, Bool.false_eq_true, List.all_nil, touch, touchB, Nat.sub_self, List.range'_zero, Nat.add_sub_cancel_left, List.range'_one]
              · rw [hsn, hcs]
                exact .inr ⟨by simp, n + 1, by simp only [vop, val, argsT, upd_ap, Nat.reduceEqDiff, if_true, if_false, ite_true, ite_false, reduceIte, loadAt, loadA, AV.cells, AV.one, List.all_cons, List.all_nil, ofV, ofCell, plain, List.getElem?_cons_zero, List.getElem?_cons_succ, List.getElem?_toArray, Option.getD_some, Bool.not_true, Bool.not_false, Bool.false_eq_true, Bool.and_true, Bool.true_and, Bool.and_self, Nat.zero_add, Option.map_some, Option.bind_some, List.map_cons, List.map_nil, ev_add, ev_sub, ev_mul, ev_lss, ev_leq, ev_gtr, ev_geq, ev_eql, ev_neq, ev_seql, ev_sneq, ev_sleq, ev_slss, ev_not, ev_min, ev_max, asNat_nat, asNat_zero, asNat_one, asNat_two, asNat_three, vb_len, List.length_cons, List.length_nil, Nat.reduceAdd, Nat.reduceLeDiff, Nat.reduceMul, Int.reduceEq, Int.reduceLT, Int.reduceLE, Int.reduceNeg, Int.reduceAdd, Int.reduceSub, Nat.reduceLT, decide_true, decide_false, not_true_eq_false, not_false_eq_true, and_self, and_true, true_and, storeA, List.take_zero, List.drop_succ_cons, List.drop_zero, List.nil_append, List.append_nil, List.take_succ_cons, List.cons_append, cut_cons, cut_zero, cut_skip, tAt, hHide, hAt, upsAt, List.contains_cons, List.contains_nil, Nat.reduceBEq, Bool.or_true, Bool.true_or, Bool.or_false, Bool.false_or, Bool.or_self, Bool.and_true, Bool.true_and, Bool.and_false, Bool.false_and, beq_self_eq_true (α := Nat), Option.some_beq_some, Option.none_beq_some, Option.some_beq_none, Bool.false_eq_true, List.all_nil, touch, touchB, Nat.sub_self, List.range'_zero, Nat.add_sub_cancel_left, List.range'_one], by simp only [vop, val, argsT, upd_ap, Nat.reduceEqDiff, if_true, if_false, ite_true, ite_false, reduceIte, loadAt, loadA, AV.cells, AV.one, List.all_cons, List.all_nil, ofV, ofCell, plain, List.getElem?_cons_zero, List.getElem?_cons_succ, List.getElem?_toArray, Option.getD_some, Bool.not_true, Bool.not_false, Bool.false_eq_true, Bool.and_true, Bool.true_and, Bool.and_self, Nat.zero_add, Option.map_some, Option.bind_some, List.map_cons, List.map_nil, ev_add, ev_sub, ev_mul, ev_lss, ev_leq, ev_gtr, ev_geq, ev_eql, ev_neq, ev_seql, ev_sneq, ev_sleq, ev_slss, ev_not, ev_min, ev_max, asNat_nat, asNat_zero, asNat_one, asNat_two, asNat_three, vb_len, List.length_cons, List.length_nil, Nat.reduceAdd, Nat.reduceLeDiff, Nat.reduceMul, Int.reduceEq, Int.reduceLT, Int.reduceLE, Int.reduceNeg, Int.reduceAdd, Int.reduceSub, Nat.reduceLT, decide_true, decide_false, not_true_eq_false, not_false_eq_true, and_self, and_true, true_and, storeA, List.take_zero, List.drop_succ_cons, List.drop_zero, List.nil_append, List.append_nil, List.take_succ_cons, List.cons_append, cut_cons, cut_zero, cut_skip, tAt, hHide, hAt, upsAt, List.contains_cons, List.contains_nil, Nat.reduceBEq, Bool.or_true, Bool.true_or, Bool.or_false, Bool.false_or, Bool.or_self, Bool.and_true, Bool.true_and, Bool.and_false, Bool.false_and, beq_self_eq_true (α := Nat), Option.some_beq_some, Option.none_beq_some, Option.some_beq_none, Bool.false_eq_true, List.all_nil, touch, touchB, Nat.sub_self, List.range'_zero, Nat.add_sub_cancel_left, List.range'_one], by simp⟩
            · have hbne : ¬ b = n := by omega
              have hbne1 : ¬ n + 1 = b := by omega
              refine wB1 (wa h5 (wa h7 (wa h8 (wa h9 (wa hlt (wa hqp (wa w1 (wa w2 (wa w3 (wa w4 (wa w5 (wa @bs8 (wa @Nat.one_ne_zero (wa hbk (wa hbne (wa hl1 (wa hl2 (wa hl3 hcut0)))))))))))))))))) ?_
              refine ⟨9 - (i + 1), by omega, ds ++ [r % 10], i + 1, r / 10, (nv q).toNat * 10 ^ (9 - (i + 1)) + r / 10, rfl, by omega, hr', rfl, step hVp, ?_, ?_, ?_, ?_⟩
              · simp only [vop, val, argsT, upd_ap, Nat.reduceEqDiff, if_true, if_false, ite_true, ite_false, reduceIte, loadAt, loadA, AV.cells, AV.one, List.all_cons, List.all_nil, ofV, ofCell, plain, List.getElem?_cons_zero, List.getElem?_cons_succ, List.getElem?_toArray, Option.getD_some, Bool.not_true, Bool.not_false, Bool.false_eq_true, Bool.and_true, Bool.true_and, Bool.and_self, Nat.zero_add, Option.map_some, Option.bind_some, List.map_cons, List.map_nil, ev_add, ev_sub, ev_mul, ev_lss, ev_leq, ev_gtr, ev_geq, ev_eql, ev_neq, ev_seql, ev_sneq, ev_sleq, ev_slss, ev_not, ev_min, ev_max, asNat_nat, asNat_zero, asNat_one, asNat_two, asNat_three, vb_len, List.length_cons, List.length_nil, Nat.reduceAdd, Nat.reduceLeDiff, Nat.reduceMul, Int.reduceEq, Int.reduceLT, Int.reduceLE, Int.reduceNeg, Int.reduceAdd, Int.reduceSub, Nat.reduceLT, decide_true, decide_false, not_true_eq_false, not_false_eq_true, and_self, and_true, true_and, storeA, List.take_zero, List.drop_succ_cons, List.drop_zero, List.nil_append, List.append_nil, List.take_succ_cons, List.cons_append, cut_cons, cut_zero, cut_skip, tAt, hHide, hAt, upsAt, List.contains_cons, List.contains_nil, Nat.reduceBEq, Bool.or_true, Bool.true_or, Bool.or_false, Bool.false_or, Bool.or_self, Bool.and_true, Bool.true_and, Bool.and_false, Bool.false_and, beq_self_eq_true (α := Nat), Option.some_beq_some, Option.none_beq_some, Option.some_beq_none, Bool.false_eq_true, List.all_nil, touch, touchB, Nat.sub_self, List.range'_zero, Nat.add_sub_cancel_left, List.range'_one, h7, List.length_nil]
              · simp only [vop, val, argsT, upd_ap, Nat.reduceEqDiff, if_true, if_false, ite_true, ite_false, reduceIte, loadAt, loadA, AV.cells, AV.one, List.all_cons, List.all_nil, ofV, ofCell, plain, List.getElem?_cons_zero, List.getElem?_cons_succ, List.getElem?_toArray, Option.getD_some, Bool.not_true, Bool.not_false, Bool.false_eq_true, Bool.and_true, Bool.true_and, Bool.and_self, Nat.zero_add, Option.map_some, Option.bind_some, List.map_cons, List.map_nil, ev_add, ev_sub, ev_mul, ev_lss, ev_leq, ev_gtr, ev_geq, ev_eql, ev_neq, ev_seql, ev_sneq, ev_sleq, ev_slss, ev_not, ev_min, ev_max, asNat_nat, asNat_zero, asNat_one, asNat_two, asNat_three, vb_len, List.length_cons, List.length_nil, Nat.reduceAdd, Nat.reduceLeDiff, Nat.reduceMul, Int.reduceEq, Int.reduceLT, Int.reduceLE, Int.reduceNeg, Int.reduceAdd, Int.reduceSub, Nat.reduceLT, decide_true, decide_false, not_true_eq_false, not_false_eq_true, and_self, and_true, true_and, storeA, List.take_zero, List.drop_succ_cons, List.drop_zero, List.nil_append, List.append_nil, List.take_succ_cons, List.cons_append, cut_cons, cut_zero, cut_skip, tAt, hHide, hAt, upsAt, List.contains_cons, List.contains_nil, Nat.reduceBEq, Bool.or_true, Bool.true_or, Bool.or_false, Bool.false_or, Bool.or_self, Bool.and_true, Bool.true_and, Bool.and_false, Bool.false_and, beq_self_eq_true (α := Nat), Option.some_beq_some, Option.none_beq_some, Option.some_beq_none, Bool.false_eq_true, List.all_nil, touch, touchB, Nat.sub_self, List.range'_zero, Nat.add_sub_cancel_left, List.range'_one]
              · simp only [vop, val, argsT, upd_ap, Nat.reduceEqDiff, if_true, if_false, ite_true, ite_false, reduceIte, loadAt, loadA, AV.cells, AV.one, List.all_cons, List.all_nil, ofV, ofCell, plain, List.getElem?_cons_zero, List.getElem?_cons_succ, List.getElem?_toArray, Option.getD_some, Bool.not_true, Bool.not_false, Bool.false_eq_true, Bool.and_true, Bool.true_and, Bool.and_self, Nat.zero_add, Option.map_some, Option.bind_some, List.map_cons, List.map_nil, ev_add, ev_sub, ev_mul, ev_lss, ev_leq, ev_gtr, ev_geq, ev_eql, ev_neq, ev_seql, ev_sneq, ev_sleq, ev_slss, ev_not, ev_min, ev_max, asNat_nat, asNat_zero, asNat_one, asNat_two, asNat_three, vb_len, List.length_cons, List.length_nil, Nat.reduceAdd, Nat.reduceLeDiff, Nat.reduceMul, Int.reduceEq, Int.reduceLT, Int.reduceLE, Int.reduceNeg, Int.reduceAdd, Int.reduceSub, Nat.reduceLT, decide_true, decide_false, not_true_eq_false, not_false_eq_true, and_self, and_true, true_and, storeA, List.take_zero, List.drop_succ_cons, List.drop_zero, List.nil_append, List.append_nil, List.take_succ_cons, List.cons_append, cut_cons, cut_zero, cut_skip, tAt, hHide, hAt, upsAt, List.contains_cons, List.contains_nil, Nat.reduceBEq, Bool.or_true, Bool.true_or, Bool.or_false, Bool.false_or, Bool.or_self, Bool.and_true, Bool.true_and, Bool.and_false, Bool.false_and, beq_self_eq_true (α := Nat), Option.some_beq_some, Option.none_beq_some, Option.some_beq_none, Bool.false_eq_true, List.all_nil, touch, touchB, Nat.sub_self, List.range'_zero, Nat.add_sub_cancel_left, List.range'_one]
              · rw [hsn]
                exact .inr ⟨by simp, n + 1, by simp only [vop, val, argsT, upd_ap, Nat.reduceEqDiff, if_true, if_false, ite_true, ite_false, reduceIte, loadAt, loadA, AV.cells, AV.one, List.all_cons, List.all_nil, ofV, ofCell, plain, List.getElem?_cons_zero, List.getElem?_cons_succ, List.getElem?_toArray, Option.getD_some, Bool.not_true, Bool.not_false, Bool.false_eq_true, Bool.and_true, Bool.true_and, Bool.and_self, Nat.zero_add, Option.map_some, Option.bind_some, List.map_cons, List.map_nil, ev_add, ev_sub, ev_mul, ev_lss, ev_leq, ev_gtr, ev_geq, ev_eql, ev_neq, ev_seql, ev_sneq, ev_sleq, ev_slss, ev_not, ev_min, ev_max, asNat_nat, asNat_zero, asNat_one, asNat_two, asNat_three, vb_len, List.length_cons, List.length_nil, Nat.reduceAdd, Nat.reduceLeDiff, Nat.reduceMul, Int.reduceEq, Int.reduceLT, Int.reduceLE, Int.reduceNeg, Int.reduceAdd, Int.reduceSub, Nat.reduceLT, decide_true, decide_false, not_true_eq_false, not_false_eq_true, and_self, and_true, true_and, storeA, List.take_zero, List.drop_succ_cons, List.drop_zero, List.nil_append, List.append_nil, List.take_succ_cons, List.cons_append, cut_cons, cut_zero, cut_skip, tAt, hHide, hAt, upsAt, List.contains_cons, List.contains_nil, Nat.reduceBEq, Bool.or_true, Bool.true_or, Bool.or_false, Bool.false_or, Bool.or_self, Bool.and_true, Bool.true_and, Bool.and_false, Bool.false_and, beq_self_eq_true (α := Nat), Option.some_beq_some, Option.none_beq_some, Option.some_beq_none, Bool.false_eq_true, List.all_nil, touch, touchB, Nat.sub_self, List.range'_zero, Nat.add_sub_cancel_left, List.range'_one, List.length_append], by simp only [vop, val, argsT, upd_ap, Nat.reduceEqDiff, if_true, if_false, ite_true, ite_false, reduceIte, loadAt, loadA, AV.cells, AV.one, List.all_cons, List.all_nil, ofV, ofCell, plain, List.getElem?_cons_zero, List.getElem?_cons_succ, List.getElem?_toArray, Option.getD_some, Bool.not_true, Bool.not_false, Bool.false_eq_true, Bool.and_true, Bool.true_and, Bool.and_self, Nat.zero_add, Option.map_some, Option.bind_some, List.map_cons, List.map_nil, ev_add, ev_sub, ev_mul, ev_lss, ev_leq, ev_gtr, ev_geq, ev_eql, ev_neq, ev_seql, ev_sneq, ev_sleq, ev_slss, ev_not, ev_min, ev_max, asNat_nat, asNat_zero, asNat_one, asNat_two, asNat_three, vb_len, List.length_cons, List.length_nil, Nat.reduceAdd, Nat.reduceLeDiff, Nat.reduceMul, Int.reduceEq, Int.reduceLT, Int.reduceLE, Int.reduceNeg, Int.reduceAdd, Int.reduceSub, Nat.reduceLT, decide_true, decide_false, not_true_eq_false, not_false_eq_true, and_self, and_true, true_and, storeA, List.take_zero, List.drop_succ_cons, List.drop_zero, List.nil_append, List.append_nil, List.take_succ_cons, List.cons_append, cut_cons, cut_zero, cut_skip, tAt, hHide, hAt, upsAt, List.contains_cons, List.contains_nil, Nat.reduceBEq, Bool.or_true, Bool.true_or, Bool.or_false, Bool.false_or, Bool.or_self, Bool.and_true, Bool.true_and, Bool.and_false, Bool.false_and, beq_self_eq_true (α := Nat), Option.some_beq_some, Option.none_beq_some, Option.some_beq_none, Bool.false_eq_true, List.all_nil, touch, touchB, Nat.sub_self, List.range'_zero, Nat.add_sub_cancel_left, List.range'_one], by simp⟩
      · simp
        omega
      · rw [hqv]
        simp
        omega
      · simp only [vop, val, argsT, upd_ap, Nat.reduceEqDiff, if_true, if_false, ite_true, ite_false, reduceIte, loadAt, loadA, AV.cells, AV.one, List.all_cons, List.all_nil, ofV, ofCell, plain, List.getElem?_cons_zero, List.getElem?_cons_succ, List.getElem?_toArray, Option.getD_some, Bool.not_true, Bool.not_false, Bool.false_eq_true, Bool.and_true, Bool.true_and, Bool.and_self, Nat.zero_add, Option.map_some, Option.bind_some, List.map_cons, List.map_nil, ev_add, ev_sub, ev_mul, ev_lss, ev_leq, ev_gtr, ev_geq, ev_eql, ev_neq, ev_seql, ev_sneq, ev_sleq, ev_slss, ev_not, ev_min, ev_max, asNat_nat, asNat_zero, asNat_one, asNat_two, asNat_three, vb_len, List.length_cons, List.length_nil, Nat.reduceAdd, Nat.reduceLeDiff, Nat.reduceMul, Int.reduceEq, Int.reduceLT, Int.reduceLE, Int.reduceNeg, Int.reduceAdd, Int.reduceSub, Nat.reduceLT, decide_true, decide_false, not_true_eq_false, not_false_eq_true, and_self, and_true, true_and, storeA, List.take_zero, List.drop_succ_cons, List.drop_zero, List.nil_append, List.append_nil, List.take_succ_cons, List.cons_append, cut_cons, cut_zero, cut_skip, tAt, hHide, hAt, upsAt, List.contains_cons, List.contains_nil, Nat.reduceBEq, Bool.or_true, Bool.true_or, Bool.or_false, Bool.false_or, Bool.or_self, Bool.and_true, Bool.true_and, Bool.and_false, Bool.false_and, beq_self_eq_true (α := Nat), Option.some_beq_some, Option.none_beq_some, Option.some_beq_none, Bool.false_eq_true, List.all_nil, touch, touchB, Nat.sub_self, List.range'_zero, Nat.add_sub_cancel_left, List.range'_one]
      · simp only [vop, val, argsT, upd_ap, Nat.reduceEqDiff, if_true, if_false, ite_true, ite_false, reduceIte, loadAt, loadA, AV.cells, AV.one, List.all_cons, List.all_nil, ofV, ofCell, plain, List.getElem?_cons_zero, List.getElem?_cons_succ, List.getElem?_toArray, Option.getD_some, Bool.not_true, Bool.not_false, Bool.false_eq_true, Bool.and_true, Bool.true_and, Bool.and_self, Nat.zero_add, Option.map_some, Option.bind_some, List.map_cons, List.map_nil, ev_add, ev_sub, ev_mul, ev_lss, ev_leq, ev_gtr, ev_geq, ev_eql, ev_neq, ev_seql, ev_sneq, ev_sleq, ev_slss, ev_not, ev_min, ev_max, asNat_nat, asNat_zero, asNat_one, asNat_two, asNat_three, vb_len, List.length_cons, List.length_nil, Nat.reduceAdd, Nat.reduceLeDiff, Nat.reduceMul, Int.reduceEq, Int.reduceLT, Int.reduceLE, Int.reduceNeg, Int.reduceAdd, Int.reduceSub, Nat.reduceLT, decide_true, decide_false, not_true_eq_false, not_false_eq_true, and_self, and_true, true_and, storeA, List.take_zero, List.drop_succ_cons, List.drop_zero, List.nil_append, List.append_nil, List.take_succ_cons, List.cons_append, cut_cons, cut_zero, cut_skip, tAt, hHide, hAt, upsAt, List.contains_cons, List.contains_nil, Nat.reduceBEq, Bool.or_true, Bool.true_or, Bool.or_false, Bool.false_or, Bool.or_self, Bool.and_true, Bool.true_and, Bool.and_false, Bool.false_and, beq_self_eq_true (α := Nat), Option.some_beq_some, Option.none_beq_some, Option.some_beq_none, Bool.false_eq_true, List.all_nil, touch, touchB, Nat.sub_self, List.range'_zero, Nat.add_sub_cancel_left, List.range'_one]
        rw [Int.toNat_of_nonneg (by omega)]
      · simp only [vop, val, argsT, upd_ap, Nat.reduceEqDiff, if_true, if_false, ite_true, ite_false, reduceIte, loadAt, loadA, AV.cells, AV.one, List.all_cons, List.all_nil, ofV, ofCell, plain, List.getElem?_cons_zero, List.getElem?_cons_succ, List.getElem?_toArray, Option.getD_some, Bool.not_true, Bool.not_false, Bool.false_eq_true, Bool.and_true, Bool.true_and, Bool.and_self, Nat.zero_add, Option.map_some, Option.bind_some, List.map_cons, List.map_nil, ev_add, ev_sub, ev_mul, ev_lss, ev_leq, ev_gtr, ev_geq, ev_eql, ev_neq, ev_seql, ev_sneq, ev_sleq, ev_slss, ev_not, ev_min, ev_max, asNat_nat, asNat_zero, asNat_one, asNat_two, asNat_three, vb_len, List.length_cons, List.length_nil, Nat.reduceAdd, Nat.reduceLeDiff, Nat.reduceMul, Int.reduceEq, Int.reduceLT, Int.reduceLE, Int.reduceNeg, Int.reduceAdd, Int.reduceSub, Nat.reduceLT, decide_true, decide_false, not_true_eq_false, not_false_eq_true, and_self, and_true, true_and, storeA, List.take_zero, List.drop_succ_cons, List.drop_zero, List.nil_append, List.append_nil, List.take_succ_cons, List.cons_append, cut_cons, cut_zero, cut_skip, tAt, hHide, hAt, upsAt, List.contains_cons, List.contains_nil, Nat.reduceBEq, Bool.or_true, Bool.true_or, Bool.or_false, Bool.false_or, Bool.or_self, Bool.and_true, Bool.true_and, Bool.and_false, Bool.false_and, beq_self_eq_true (α := Nat), Option.some_beq_some, Option.none_beq_some, Option.some_beq_none, Bool.false_eq_true, List.all_nil, touch, touchB, Nat.sub_self, List.range'_zero, Nat.add_sub_cancel_left, List.range'_one]
        rfl
      · simp only [vop, val, argsT, upd_ap, Nat.reduceEqDiff, if_true, if_false, ite_true, ite_false, reduceIte, loadAt, loadA, AV.cells, AV.one, List.all_cons, List.all_nil, ofV, ofCell, plain, List.getElem?_cons_zero, List.getElem?_cons_succ, List.getElem?_toArray, Option.getD_some, Bool.not_true, Bool.not_false, Bool.false_eq_true, Bool.and_true, Bool.true_and, Bool.and_self, Nat.zero_add, Option.map_some, Option.bind_some, List.map_cons, List.map_nil, ev_add, ev_sub, ev_mul, ev_lss, ev_leq, ev_gtr, ev_geq, ev_eql, ev_neq, ev_seql, ev_sneq, ev_sleq, ev_slss, ev_not, ev_min, ev_max, asNat_nat, asNat_zero, asNat_one, asNat_two, asNat_three, vb_len, List.length_cons, List.length_nil, Nat.reduceAdd, Nat.reduceLeDiff, Nat.reduceMul, Int.reduceEq, Int.reduceLT, Int.reduceLE, Int.reduceNeg, Int.reduceAdd, Int.reduceSub, Nat.reduceLT, decide_true, decide_false, not_true_eq_false, not_false_eq_true, and_self, and_true, true_and, storeA, List.take_zero, List.drop_succ_cons, List.drop_zero, List.nil_append, List.append_nil, List.take_succ_cons, List.cons_append, cut_cons, cut_zero, cut_skip, tAt, hHide, hAt, upsAt, List.contains_cons, List.contains_nil, Nat.reduceBEq, Bool.or_true, Bool.true_or, Bool.or_false, Bool.false_or, Bool.or_self, Bool.and_true, Bool.true_and, Bool.and_false, Bool.false_and, beq_self_eq_true (α := Nat), Option.some_beq_some, Option.none_beq_some, Option.some_beq_none, Bool.false_eq_true, List.all_nil, touch, touchB, Nat.sub_self, List.range'_zero, Nat.add_sub_cancel_left, List.range'_one]
        exact ho
  · simp [upd_ap, argsT]
  · simp [upd_ap, argsT, OutSl, u8s]
end Go.Proofs.Bv
namespace Go.Proofs.Bv
open Go
theorem ok162 : codeOk 15 (Tryz.f162.body.getD .skip) = true := by kernel_rfl
theorem ok102 : codeOk 49 (Tryz.f102.body.getD .skip) = true := by kernel_rfl
theorem ok154 : codeOk 27 (Tryz.f154.body.getD .skip) = true := by kernel_rfl
theorem ok96 : codeOk 42 (Tryz.f96.body.getD .skip) = true := by kernel_rfl
def nDig (l : List Int) : Int := ((digs (nv l).toNat).length : Int)
theorem pc162 (G : Nat → Option (List AV)) (a : List Int) (hc : natChk a = 0) (ha : Limbs a) : Pc (Cf G) 162 [.psl (u32s a) a.length] (.sc (.int .i64 (nDig a))) := by
  have h1 := pc223 G a hc ha
  obtain ⟨ht, hl⟩ := TopOk_of_chk hc
  by_cases h0 : a = []
  · subst h0
    refine Pc_of (Gf_enter (C := Cf G) Tryz.func162 rfl ok162 (Nat.le_of_ble_eq_true rfl) ?_)
    simp only [Tryz.f162, Option.getD_some]
    refine wC1 trivial (wa h1 trivial) ?_
    simp [one1, frz_s, nDig, nv, digs_zero]
  · have hne : ¬ (a.length : Int) = 0 := by
      have := List.length_pos_iff.2 h0
      omega
    have hp := nv_pos ha ht h0
    refine Pc_of (Gf_enter (C := Cf G) Tryz.func162 rfl ok162 (Nat.le_of_ble_eq_true rfl) ?_)
    simp only [Tryz.f162, Option.getD_some]
    refine wC1 hne (wa h1 trivial) ?_
    simp only [one1, frz_s, Option.map_some, nDig]
    rw [decStr_size _ (by omega)]
def decChk (ng : Bool) (cf : List Int) (ex : Int) : Int :=
  if ¬ natChk cf = 0 ∨ 40 < (cf.length : Int) then 9
  else if (cf.length : Int) = 0 then (if ng = true ∨ ¬ ex = 0 then 9 else 0)
  else if nv cf % 10 = 0 ∨ 300 < nDig cf ∨ ex < -1000 ∨ 1000 < ex then 9 else 0
set_option maxHeartbeats 2000000 in
theorem pc102 (G : Nat → Option (List AV)) (ng : Bool) (cf : List Int) (ex : Int) (hl : cf.length ≤ 140737488355328) (ha : Limbs cf) :
    Pc (Cf G) 102 [.agg [.sc (.bool ng), .psl (u32s cf) cf.length, .sc (.int .i64 ex)]] (.sc (.int .i64 (decChk ng cf ex))) := by
  have h1 := pc160 G cf hl
  refine Pc_of (Gf_enter (C := Cf G) Tryz.func102 rfl ok102 (Nat.le_of_ble_eq_true rfl) ?_)
  simp only [Tryz.f102, Option.getD_some]
  by_cases hc : natChk cf = 0
  · have h2 := pc161 G cf hc ha
    have h3 := pc162 G cf hc ha
    (focus refine wC9 hc (wa h1 (wa h2 (wa h3 trivial))) ?_ ?_ ?_ ?_ ?_ ?_ ?_ ?_ ?_; intro hb; rotate_left; intro hb hb hb hb; rotate_left; intro hb hb hb hb; rotate_left; intro hb hb hb; rotate_left; intro hb hb hb hb hb hb; rotate_left; intro hb hb hb hb hb hb; rotate_left; intro hb hb hb hb hb; rotate_left; intro hb hb hb hb; rotate_left; intro hb hb hb; rotate_left)
    all_goals simp only [one1, frz_s, Option.map_some, decChk, hc]
    all_goals ((repeat' split) <;> first | rfl | (exfalso; omega) | (exfalso; simp_all; done) | (exfalso; simp_all; omega))
  · refine wC1 hc (wa h1 trivial) ?_
    all_goals simp only [one1, frz_s, Option.map_some, decChk, hc]
    all_goals ((repeat' split) <;> first | rfl | (exfalso; omega) | (exfalso; simp_all; done) | (exfalso; simp_all; omega))
def numOk : JV → Bool
  | .mk k ng cf ex _ _ _ => if k = 3 then decide (decChk ng cf ex = 0) else !ng && decide ((cf.length : Int) = 0) && decide (ex = 0)
set_option maxHeartbeats 2000000 in
theorem pc154 (G : Nat → Option (List AV)) : (v : JV) → Fit v → Pc (Cf G) 154 [.agg (enc v)] (.sc (.bool (numOk v)))
  | .mk k ng cf ex t l ks => fun hfit => by
    have h1 := pc102 G ng cf ex (by have := hfit.1.ncoef; omega) (fun c hc => hfit.1.coef c hc)
    refine Pc_of (Gf_enter (C := Cf G) Tryz.func154 rfl ok154 (Nat.le_of_ble_eq_true rfl) ?_)
    simp only [Tryz.f154, Option.getD_some]
    by_cases hk : k = 3
    · subst hk
      refine wC1 trivial (wa h1 trivial) ?_
      all_goals simp [one1, frz_s, numOk]
    · (focus refine wC3 hk (wa h1 trivial) ?_ ?_ ?_; intro hb hb; rotate_left; intro hb hb; rotate_left; intro hb; rotate_left)
      all_goals simp_all [one1, frz_s, numOk]
def own : JV → Int
  | .mk k ng cf ex t l ks =>
    if k < 0 ∨ 6 < k then 23
    else if ¬ texts (.mk k ng cf ex t l ks) = 0 then texts (.mk k ng cf ex t l ks)
    else if 4096 < max (l.length : Int) (ks.length : Int) then 5
    else if numOk (.mk k ng cf ex t l ks) = false ∨ used (.mk k ng cf ex t l ks) = false ∨ rises ks = false then 9
    else 0
set_option maxHeartbeats 2000000 in
theorem pc96 (G : Nat → Option (List AV)) : (v : JV) → Fit v → Pc (Cf G) 96 [.agg (enc v)] (.sc (.int .i64 (own v)))
  | .mk k ng cf ex t l ks => fun hfit => by
    have h1 := pc153 G (.mk k ng cf ex t l ks) hfit
    have h2 := pc154 G (.mk k ng cf ex t l ks) hfit
    have h3 := pc155 G (.mk k ng cf ex t l ks) hfit
    have h4 := pc156 G ks (by have := hfit.1.nkeys; omega)
    simp only [enc] at h1 h2 h3
    simp only [own]
    generalize texts (.mk k ng cf ex t l ks) = a1 at *
    generalize numOk (.mk k ng cf ex t l ks) = a2 at *
    generalize used (.mk k ng cf ex t l ks) = a3 at *
    generalize rises ks = a4 at *
    refine Pc_of (Gf_enter (C := Cf G) Tryz.func96 rfl ok96 (Nat.le_of_ble_eq_true rfl) ?_)
    simp only [Tryz.f96, Option.getD_some]
    (focus refine wC8 trivial (wa h1 (wa h2 (wa h3 (wa h4 trivial)))) ?_ ?_ ?_ ?_ ?_ ?_ ?_ ?_; intro hb hb; rotate_left; intro hb hb hb; rotate_left; intro hb hb hb hb; rotate_left; intro hb hb hb hb hb hb hb; rotate_left; intro hb hb hb hb hb hb hb; rotate_left; intro hb hb hb hb hb hb; rotate_left; intro hb hb hb hb hb; rotate_left; intro hb; rotate_left)
    all_goals simp only [one1, frz_s, Option.map_some]
    all_goals ((repeat' split) <;> first | rfl | (exfalso; omega) | (exfalso; simp_all; done) | (exfalso; simp_all; omega))
end Go.Proofs.Bv
namespace Go.Proofs.Bv
open Go
theorem or2_zeroB {a b : Int} (h : or2 a b = 0) : a = 0 ∧ b = 0 := by
  unfold or2 at h
  split at h <;> simp_all
theorem textsK_zeroB : (ks : List ByteArray) → (e : Int) → textsK ks e = 0 → e = 0 ∧ ∀ s ∈ ks, letters s = 0
  | [], e, h => ⟨h, by simp⟩
  | k :: r, e, h => by
    simp only [textsK] at h
    obtain ⟨h1, h2⟩ := textsK_zeroB r _ h
    obtain ⟨h3, h4⟩ := or2_zeroB h1
    exact ⟨h3, fun s hs => (List.mem_cons.1 hs).elim (fun q => by rw [q]; exact h4) (h2 s)⟩
theorem own_saidB {k : Int} {ng : Bool} {cf : List Int} {ex : Int} {t : ByteArray} {l : List JV} {ks : List ByteArray} (h : own (.mk k ng cf ex t l ks) = 0) :
    (0 ≤ k ∧ k ≤ 6) ∧ l.length ≤ 4096 ∧ (k = 3 → decChk ng cf ex = 0) ∧ (k = 6 → ks.length = l.length) ∧ letters t = 0 ∧ ∀ s ∈ ks, letters s = 0 := by
  simp only [own] at h
  split at h
  · omega
  · rename_i h1
    split at h
    · omega
    · rename_i h2
      split at h
      · omega
      · rename_i h3
        split at h
        · omega
        · rename_i h4
          have ht : texts (.mk k ng cf ex t l ks) = 0 := Decidable.not_not.1 h2
          obtain ⟨t1, t2⟩ := textsK_zeroB _ _ ht
          have hu : used (.mk k ng cf ex t l ks) = true := by
            cases hq : used (.mk k ng cf ex t l ks)
            · exact absurd (.inr (.inl hq)) h4
            · rfl
          have hn : numOk (.mk k ng cf ex t l ks) = true := by
            cases hq : numOk (.mk k ng cf ex t l ks)
            · exact absurd (.inl hq) h4
            · rfl
          refine ⟨by omega, by omega, fun h => ?_, fun h => ?_, t1, t2⟩
          · simp only [numOk, if_pos h] at hn
            exact of_decide_eq_true hn
          · simp only [used, if_pos h, Bool.and_eq_true] at hu
            have := of_decide_eq_true hu.2
            omega
theorem empty_of {t : ByteArray} (h : (t.toList == (ByteArray.mk #[]).toList) = true) : t = ⟨#[]⟩ := by
  have e := eq_of_beq h
  rw [ByteArray.toList_eq, ByteArray.toList_eq] at e
  apply ByteArray.ext
  exact Array.toList_inj.1 e
theorem shape_of {k : Int} {ng : Bool} {cf : List Int} {ex : Int} {t : ByteArray} {l : List JV} {ks : List ByteArray} (h : own (.mk k ng cf ex t l ks) = 0) :
    (k ≠ 3 → ng = false ∧ cf = [] ∧ ex = 0) ∧ (k ≠ 4 → t = ⟨#[]⟩) ∧ (k < 5 → l = []) ∧ (k ≠ 6 → ks = []) ∧ (k = 6 → ks.length = l.length) ∧ rises ks = true := by
  simp only [own] at h
  split at h
  · omega
  · split at h
    · omega
    · split at h
      · omega
      · split at h
        · omega
        · rename_i hu
          have hu1 : used (.mk k ng cf ex t l ks) = true := by
            cases hq : used (.mk k ng cf ex t l ks)
            · exact absurd (.inr (.inl hq)) hu
            · rfl
          have hn : numOk (.mk k ng cf ex t l ks) = true := by
            cases hq : numOk (.mk k ng cf ex t l ks)
            · exact absurd (.inl hq) hu
            · rfl
          have hr : rises ks = true := by
            cases hq : rises ks
            · exact absurd (.inr (.inr hq)) hu
            · rfl
          simp only [used, Bool.and_eq_true, Bool.or_eq_true, decide_eq_true_eq] at hu1
          obtain ⟨⟨u1, u2⟩, u3⟩ := hu1
          refine ⟨fun hk => ?_, fun hk => empty_of (u1.resolve_left hk), fun hk => List.eq_nil_of_length_eq_zero (by omega), fun hk => List.eq_nil_of_length_eq_zero (by rw [if_neg hk] at u3; omega), fun hk => by rw [if_pos hk] at u3; omega, hr⟩
          simp only [numOk, if_neg hk, Bool.and_eq_true, decide_eq_true_eq, Bool.not_eq_true'] at hn
          obtain ⟨⟨m1, m2⟩, m3⟩ := hn
          exact ⟨by simpa using m1, List.eq_nil_of_length_eq_zero (by omega), by simpa using m3⟩
end Go.Proofs.Bv
namespace Go.Proofs.Bv
open Go
def dz : List Nat → List Nat
  | [] => []
  | d :: r => if d = 0 then dz r else d :: r
theorem dstr_last (r : List Nat) (d : Nat) : (dstr (r ++ [d])).data[r.length]? = some (dByte d) := by
  show ((r ++ [d]).map dByte).toArray[r.length]? = _
  simp
theorem dstr_emp {l : List Nat} (h : l ≠ []) : ((dstr l).toList == (ByteArray.mk #[]).toList) = false := by
  rw [dstr_nil]
  simp [h]
theorem dz_zero (r : List Nat) : dz (0 :: r) = dz r := by simp [dz]
theorem dz_pos {d : Nat} (h : d ≠ 0) (r : List Nat) : dz (d :: r) = d :: r := by simp [dz, h]
theorem ok291 : codeOk 23 (Tryz.f291.body.getD .skip) = true := by kernel_rfl
theorem ok239 : codeOk 37 (Tryz.f239.body.getD .skip) = true := by kernel_rfl
theorem ok119 : codeOk 6 (Tryz.f119.body.getD .skip) = true := by kernel_rfl
theorem ok238 : codeOk 6 (Tryz.f238.body.getD .skip) = true := by kernel_rfl
set_option maxHeartbeats 4000000 in
set_option maxRecDepth 100000 in
theorem pc291 (G : Nat → Option (List AV)) (l : List Nat) (hn : l.length ≤ 140737488355328) (h : ∀ d ∈ l, d < 10) : Pc (Cf G) 291 [.sc (.string (dstr l.reverse)), .sc (.int .u8 48)] (.sc (.string (dstr (dz l).reverse))) := by
  refine Pc_of (Gf_enter (C := Cf G) Tryz.func291 rfl ok291 (Nat.le_of_ble_eq_true rfl) ?_)
  simp only [Tryz.f291, Option.getD_some]
  refine wB1 trivial ?_
  refine Gc_loop_inv (fun m st => ∃ p r, l = p ++ r ∧ m = r.length ∧ dz r = dz l ∧ st.T 0 = .sc (.string (dstr r.reverse)) ∧ st.T 1 = .sc (.int .u8 48)) ?_ l.length _ ⟨[], l, rfl, rfl, rfl, ?_⟩
  · rintro m ⟨T, hh, n⟩ ⟨p, r, hpr, rfl, hdz, t0, t1⟩
    simp only at t0 t1
    have hrl : r.length ≤ l.length := by rw [hpr]; simp
    have hr : ∀ d ∈ r, d < 10 := fun d hd => h d (by rw [hpr]; simp [hd])
    cases r with
    | nil =>
      have s0 : (dstr ([] : List Nat).reverse).size = 0 := rfl
      refine wB1 (wa t0 (wa t1 s0)) ?_
      simp only [one1, frz_s, Option.map_some, ← hdz, dz]
    | cons d r =>
      have s1 : (dstr (d :: r).reverse).size = r.length + 1 := by rw [dstr_size]; simp
      have hgt : (0 : Int) < ((r.length + 1 : Nat) : Int) := by omega
      have w1 : IntKind.i64.wrap (((r.length + 1 : Nat) : Int) - 1) = (r.length : Int) := by rw [i64 (by simp only [List.length_cons] at hrl; omega) (by simp only [List.length_cons] at hrl; omega)]; omega
      have hat : (dstr (d :: r).reverse).data[r.length]? = some (dByte d) := by
        have := dstr_last r.reverse d
        rw [List.length_reverse] at this
        rw [List.reverse_cons]
        exact this
      have hdn := dByte_nat (hr d (by simp))
      by_cases hd : d = 0
      · subst hd
        have e48 : (((dByte 0).toNat : Int) = 48) = True := by rw [hdn]; simp
        have b1 := bnds_hi (len := r.length + 1) (k := r.length) (by omega)
        have x1 : (dstr (0 :: r).reverse).extract 0 r.length = dstr r.reverse := by
          rw [dstr_cut, List.reverse_cons, List.drop_zero]
          rw [List.take_append_of_le_length (by simp), List.take_of_length_le (by simp)]
        refine wB1 (wa t0 (wa t1 (wa s1 (wa hgt (wa w1 (wa hat (wa @e48 (wa b1 x1)))))))) ?_
        refine ⟨r.length, by simp, p ++ [0], r, by simp [hpr], rfl, by rw [← hdz, dz_zero], ?_⟩
        simp [upd_ap, t1]
      · have e48 : ¬ ((dByte d).toNat : Int) = 48 := by rw [hdn]; omega
        refine wB1 (wa t0 (wa t1 (wa s1 (wa hgt (wa w1 (wa hat @e48)))))) ?_
        simp only [one1, frz_s, Option.map_some, ← hdz, dz_pos hd]
  · simp [upd_ap, argsT]
theorem s48 : (ByteArray.mk #[48]).size = 1 := rfl
theorem a48 : (ByteArray.mk #[48]).data[0]? = some 48 := rfl
theorem n48 : ((48 : UInt8).toNat : Int) = 48 := rfl
theorem e48 : ((ByteArray.mk #[48]).toList == (ByteArray.mk #[]).toList) = false := by rw [ByteArray.toList_eq, ByteArray.toList_eq]; rfl
set_option maxRecDepth 100000 in
theorem pc239 (G : Nat → Option (List AV)) (l : List Nat) (h0 : l ≠ []) (hn : l.length ≤ 140737488355328) (h : ∀ d ∈ l, d < 10) : Pc (Cf G) 239 [.sc (.string (dstr l.reverse)), .sc (.string ⟨#[48]⟩)] (.sc (.string (dstr (dz l).reverse))) := by
  have hc := pc291 G l hn h
  have hne := dstr_emp (l := l.reverse) (by simpa using h0)
  refine Pc_of (Gf_enter (C := Cf G) Tryz.func239 rfl ok239 (Nat.le_of_ble_eq_true rfl) ?_)
  simp only [Tryz.f239, Option.getD_some]
  refine wC1 (wa hne (wa @e48 (wa @s48 (wa @a48 (wa @n48 @Int.natCast_one))))) (wa hc trivial) ?_
  simp only [one1, frz_s, Option.map_some]
theorem pc119 (G : Nat → Option (List AV)) (cs : List AV) (len : Nat) (e : Int) : Pc (Cf G) 119 [.psl cs len, .sc (.int .i64 e)] (.psl cs len) := by
  refine Pc_of (Gf_enter (C := Cf G) Tryz.func119 rfl ok119 (Nat.le_of_ble_eq_true rfl) ?_)
  simp only [Tryz.f119, Option.getD_some]
  refine wB1 trivial ?_
  simp only [one1, frz_l, Option.map_some]
theorem pc238 (G : Nat → Option (List AV)) (s : ByteArray) (e : Int) : Pc (Cf G) 238 [.sc (.string s), .sc (.int .i64 e)] (.sc (.string s)) := by
  refine Pc_of (Gf_enter (C := Cf G) Tryz.func238 rfl ok238 (Nat.le_of_ble_eq_true rfl) ?_)
  simp only [Tryz.f238, Option.getD_some]
  refine wB1 trivial ?_
  simp only [one1, frz_s, Option.map_some]
end Go.Proofs.Bv
namespace Go.Proofs.Bv
open Go
def stripN (n : Nat) : Nat := if h : n = 0 then 0 else if n % 10 = 0 then stripN (n / 10) else n
termination_by n
decreasing_by omega
def tzN (n : Nat) : Nat := if h : n = 0 then 0 else if n % 10 = 0 then tzN (n / 10) + 1 else 0
termination_by n
decreasing_by omega
theorem strip_zero {n : Nat} (h0 : 0 < n) (h : n % 10 = 0) : stripN n = stripN (n / 10) ∧ tzN n = tzN (n / 10) + 1 := by
  constructor
  · rw [stripN, dif_neg (by omega), if_pos h]
  · rw [tzN, dif_neg (by omega), if_pos h]
theorem strip_pos {n : Nat} (h0 : 0 < n) (h : n % 10 ≠ 0) : stripN n = n ∧ tzN n = 0 := by
  constructor
  · rw [stripN, dif_neg (by omega), if_neg h]
  · rw [tzN, dif_neg (by omega), if_neg h]
theorem strip_digs (n : Nat) : dz (digs n) = digs (stripN n) ∧ (digs n).length = (digs (stripN n)).length + tzN n ∧ n = stripN n * 10 ^ tzN n := by
  induction n using Nat.strongRecOn with
  | ind n ih =>
    rcases Nat.eq_zero_or_pos n with rfl | h0
    · rw [stripN, tzN, digs_zero]
      simp [dz, digs_zero]
    · by_cases h : n % 10 = 0
      · obtain ⟨e1, e2⟩ := strip_zero h0 h
        obtain ⟨i1, i2, i3⟩ := ih (n / 10) (by omega)
        rw [e1, e2, digs_pos h0, h, dz_zero, List.length_cons]
        refine ⟨i1, by omega, ?_⟩
        rw [Nat.pow_succ, ← Nat.mul_assoc, ← i3]
        omega
      · obtain ⟨e1, e2⟩ := strip_pos h0 h
        rw [e1, e2, digs_pos h0, dz_pos h]
        simp
theorem strip_ne {n : Nat} (h0 : 0 < n) : 0 < stripN n ∧ stripN n % 10 ≠ 0 := by
  induction n using Nat.strongRecOn with
  | ind n ih =>
    by_cases h : n % 10 = 0
    · rw [(strip_zero h0 h).1]
      exact ih (n / 10) (by omega) (by omega)
    · rw [(strip_pos h0 h).1]
      exact ⟨h0, h⟩
theorem mv_rev : (l : List Nat) → mv l.reverse = dv l
  | [] => rfl
  | d :: l => by
    rw [List.reverse_cons, mv_app, mv_rev l]
    simp [mv, dv]
    omega
theorem decStr_d {n : Nat} (h : 0 < n) : decStr n = dstr (digs n).reverse := by
  unfold decStr dstr
  rw [if_neg (by omega)]
theorem natChk_lim {n : Nat} (h : (lim n).length ≤ 256) : natChk (lim n) = 0 := by
  unfold natChk
  rw [if_neg (by omega), if_neg]
  intro e
  exact lim_top n 0 e rfl
theorem lim_digs {n k : Nat} (h : (digs n).length ≤ k) : (lim n).length ≤ k := by
  refine lim_len k n ?_
  have e := dv_digs n
  have : ∀ l : List Nat, (∀ d ∈ l, d < 10) → dv l < 10 ^ l.length := by
    intro l
    induction l with
    | nil => intro _; simp [dv]
    | cons d l ih =>
      intro hl
      have h1 := ih fun x hx => hl x (by simp [hx])
      have h2 := hl d (by simp)
      simp only [dv, List.length_cons, Nat.pow_succ]
      omega
  have h2 := this (digs n) (digs_lt n)
  rw [e] at h2
  exact Nat.lt_of_lt_of_le h2 (Nat.pow_le_pow_right (by omega) h)
def encD (ng : Bool) (n : Nat) (ex : Int) : List AV := [.sc (.bool ng), .psl (u32s (lim n)) (lim n).length, .sc (.int .i64 ex)]
theorem ok184 : codeOk 8 (Tryz.f184.body.getD .skip) = true := by kernel_rfl
theorem ok185 : codeOk 39 (Tryz.f185.body.getD .skip) = true := by kernel_rfl
theorem ok121 : codeOk 30 (Tryz.f121.body.getD .skip) = true := by kernel_rfl
theorem ok101 : codeOk 23 (Tryz.f101.body.getD .skip) = true := by kernel_rfl
theorem ok103 : codeOk 31 (Tryz.f103.body.getD .skip) = true := by kernel_rfl
theorem pc184 (G : Nat → Option (List AV)) (ng : Bool) (n : Nat) (ex : Int) : Pc (Cf G) 184 [.agg (encD ng n ex)] (.sc (.bool (decide (n = 0)))) := by
  have e : decide (((lim n).length : Int) = 0) = decide (n = 0) := by
    rw [decide_eq_decide]
    constructor
    · intro h
      exact lim_nil.1 (List.eq_nil_of_length_eq_zero (by omega))
    · rintro rfl
      rw [lim_zero]
      rfl
  unfold encD
  refine Pc_of (Gf_enter (C := Cf G) Tryz.func184 rfl ok184 (Nat.le_of_ble_eq_true rfl) ?_)
  simp only [Tryz.f184, Option.getD_some]
  refine wB1 e ?_
  simp only [one1, frz_s, Option.map_some]
set_option maxHeartbeats 4000000 in
set_option maxRecDepth 100000 in
theorem pc185 (G : Nat → Option (List AV)) (ng : Bool) (n : Nat) (ex : Int) (h0 : 0 < n) (hl : (lim n).length ≤ 256) (hd : (digs n).length ≤ 2400) (hx : -1000000 ≤ ex ∧ ex ≤ 1000000) :
    Pc (Cf G) 185 [.agg (encD ng n ex)] (.agg (encD ng (stripN n) (ex + tzN n))) := by
  obtain ⟨s1, s2, s3⟩ := strip_digs n
  obtain ⟨p1, p2⟩ := strip_ne h0
  have h1 := pc223 G (lim n) (natChk_lim hl) (lim_limbs n)
  rw [nv_lim, Int.toNat_natCast, decStr_d h0] at h1
  have hne : digs n ≠ [] := fun e => by rw [digs_nil] at e; omega
  have hne2 : digs (stripN n) ≠ [] := fun e => by rw [digs_nil] at e; omega
  have h2 := pc238 G (dstr (digs n).reverse) 0
  have h3 := pc239 G (digs n) hne (by omega) (digs_lt n)
  rw [s1] at h3
  have h4 := pc120 G (digs (stripN n)).reverse (by simpa using hne2) (by rw [List.length_reverse]; omega) (fun d hd' => digs_lt (stripN n) d (by simpa using hd'))
  rw [mv_rev, dv_digs] at h4
  have h5 := pc119 G (u32s (lim (stripN n))) (lim (stripN n)).length 0
  have z1 : (dstr (digs n).reverse).size = (digs n).length := by rw [dstr_size, List.length_reverse]
  have z2 : (dstr (digs (stripN n)).reverse).size = (digs (stripN n)).length := by rw [dstr_size, List.length_reverse]
  unfold lsl at h4
  unfold encD
  refine Pc_of (Gf_enter (C := Cf G) Tryz.func185 rfl ok185 (Nat.le_of_ble_eq_true rfl) ?_)
  simp only [Tryz.f185, Option.getD_some]
  by_cases ht : tzN n = 0
  · have e1 : (((digs (stripN n)).length : Int) = ((digs n).length : Int)) = True := by rw [s2, ht]; simp
    have e2 : stripN n = n := by rw [ht] at s3; simpa using s3.symm
    refine wC1 (wa z1 (wa z2 e1)) (wa h1 (wa h2 (wa h3 trivial))) ?_
    rw [e2, ht]
    simp only [one1, frz_a, mapF, frz_s, frz_l, Option.map_some, Int.natCast_zero, Int.add_zero, List.append_nil]
  · have e1 : ¬ ((digs (stripN n)).length : Int) = ((digs n).length : Int) := by omega
    have w1 : IntKind.i64.wrap (((digs n).length : Int) - ((digs (stripN n)).length : Int)) = (tzN n : Int) := by rw [i64 (by omega) (by omega)]; omega
    have w2 : IntKind.i64.wrap (ex + (tzN n : Int)) = ex + (tzN n : Int) := i64 (by omega) (by omega)
    refine wC1 (wa z1 (wa z2 (wa e1 (wa w1 w2)))) (wa h1 (wa h2 (wa h3 (wa h4 (wa h5 trivial))))) ?_
    simp only [one1, frz_a, mapF, frz_s, frz_l, Option.map_some, List.append_nil]
def settleD (ng : Bool) (n : Nat) (ex : Int) : (Bool × Nat × Int) × Int :=
  if n = 0 then ((false, 0, 0), 0)
  else if 300 < (digs (stripN n)).length then ((false, 0, 0), 51)
  else if ex + tzN n < -1000 ∨ 1000 < ex + tzN n then ((false, 0, 0), 52)
  else ((ng, stripN n, ex + tzN n), 0)
end Go.Proofs.Bv
namespace Go.Proofs.Bv
open Go
def encR (r : (Bool × Nat × Int) × Int) : AV := .tup [.agg (encD r.1.1 r.1.2.1 r.1.2.2), .sc (.int .i64 r.2)]
theorem strip_le (n : Nat) : (digs (stripN n)).length ≤ (digs n).length := by
  have := (strip_digs n).2.1
  omega
theorem tz_le (n : Nat) : tzN n ≤ (digs n).length := by
  have := (strip_digs n).2.1
  omega
set_option maxHeartbeats 4000000 in
set_option maxRecDepth 100000 in
theorem pc121 (G : Nat → Option (List AV)) (ng : Bool) (n : Nat) (ex : Int) (hl : (lim n).length ≤ 256) (hd : (digs n).length ≤ 2400) (hx : -1000000 ≤ ex ∧ ex ≤ 1000000) :
    Pc (Cf G) 121 [.agg (encD ng n ex)] (encR (settleD ng n ex)) := by
  have h1 := pc184 G ng n ex
  have z0 : u32s (lim 0) = [] := by rw [lim_zero]; rfl
  have z1 : (lim 0).length = 0 := by rw [lim_zero]; rfl
  unfold settleD
  by_cases h0 : n = 0
  · subst h0
    rw [if_pos rfl]
    unfold encR
    unfold encD at h1 ⊢
    rw [z0, z1] at h1 ⊢
    refine Pc_of (Gf_enter (C := Cf G) Tryz.func121 rfl ok121 (Nat.le_of_ble_eq_true rfl) ?_)
    simp only [Tryz.f121, Option.getD_some]
    refine wC1 trivial (wa h1 trivial) ?_
    simp only [one1, frz_t, frz_a, frz_n, mapF, frz_s, frz_l, Option.map_some, List.append_nil] <;> rfl
  · have h2 := pc185 G ng n ex (by omega) hl hd hx
    have hs := strip_le n
    have hz := tz_le n
    have hl2 : (lim (stripN n)).length ≤ 256 := by
      obtain ⟨_, _, e⟩ := strip_digs n
      have : stripN n ≤ n := by
        conv => rhs; rw [e]
        exact Nat.le_mul_of_pos_right _ (Nat.pow_pos (by omega))
      exact Nat.le_trans (lim_mono this) hl
    have h3 := pc162 G (lim (stripN n)) (natChk_lim hl2) (lim_limbs _)
    unfold nDig at h3
    rw [nv_lim, Int.toNat_natCast] at h3
    rw [if_neg h0]
    unfold encD at h1 h2
    by_cases c1 : 300 < (digs (stripN n)).length
    · rw [if_pos c1]
      have c1' : (300 : Int) < ((digs (stripN n)).length : Int) := by omega
      unfold encR encD
      rw [z0, z1]
      refine Pc_of (Gf_enter (C := Cf G) Tryz.func121 rfl ok121 (Nat.le_of_ble_eq_true rfl) ?_)
      simp only [Tryz.f121, Option.getD_some]
      try simp only [encD]
      refine wC1 (wa h0 c1') (wa h1 (wa h2 (wa h3 trivial))) ?_
      simp only [one1, frz_t, frz_a, frz_n, mapF, frz_s, frz_l, Option.map_some, List.append_nil] <;> rfl
    · rw [if_neg c1]
      have c1' : ¬ (300 : Int) < ((digs (stripN n)).length : Int) := by omega
      by_cases c2 : ex + tzN n < -1000
      · rw [if_pos (.inl c2)]
        unfold encR encD
        rw [z0, z1]
        refine Pc_of (Gf_enter (C := Cf G) Tryz.func121 rfl ok121 (Nat.le_of_ble_eq_true rfl) ?_)
        simp only [Tryz.f121, Option.getD_some]
        try simp only [encD]
        refine wC1 (wa h0 (wa c1' c2)) (wa h1 (wa h2 (wa h3 trivial))) ?_
        simp only [one1, frz_t, frz_a, frz_n, mapF, frz_s, frz_l, Option.map_some, List.append_nil] <;> rfl
      · by_cases c3 : 1000 < ex + tzN n
        · rw [if_pos (.inr c3)]
          unfold encR encD
          rw [z0, z1]
          refine Pc_of (Gf_enter (C := Cf G) Tryz.func121 rfl ok121 (Nat.le_of_ble_eq_true rfl) ?_)
          simp only [Tryz.f121, Option.getD_some]
          try simp only [encD]
          refine wC1 (wa h0 (wa c1' (wa c2 @c3))) (wa h1 (wa h2 (wa h3 trivial))) ?_
          simp only [one1, frz_t, frz_a, frz_n, mapF, frz_s, frz_l, Option.map_some, List.append_nil] <;> rfl
        · rw [if_neg (by omega)]
          unfold encR encD
          refine Pc_of (Gf_enter (C := Cf G) Tryz.func121 rfl ok121 (Nat.le_of_ble_eq_true rfl) ?_)
          simp only [Tryz.f121, Option.getD_some]
          try simp only [encD]
          refine wC1 (wa h0 (wa c1' (wa c2 @c3))) (wa h1 (wa h2 (wa h3 trivial))) ?_
          simp only [one1, frz_t, frz_a, frz_n, mapF, frz_s, frz_l, Option.map_some, List.append_nil]
end Go.Proofs.Bv
namespace Go.Proofs.Bv
open Go
theorem ok144 : codeOk 19 (Tryz.f144.body.getD .skip) = true := by kernel_rfl
theorem ok88 : codeOk 9 (Tryz.f88.body.getD .skip) = true := by kernel_rfl
theorem ok152 : codeOk 15 (Tryz.f152.body.getD .skip) = true := by kernel_rfl
theorem ok219 : codeOk 8 (Tryz.f219.body.getD .skip) = true := by kernel_rfl
theorem ok151 : codeOk 6 (Tryz.f151.body.getD .skip) = true := by kernel_rfl
theorem ok95 : codeOk 4 (Tryz.f95.body.getD .skip) = true := by kernel_rfl
mutual
def pre : JV → List JV
  | .mk k ng cf ex t l ks => .mk k ng cf ex t l ks :: pres l
def pres : List JV → List JV
  | [] => []
  | x :: r => pre x ++ pres r
end
theorem pres_app : (a b : List JV) → pres (a ++ b) = pres a ++ pres b
  | [], b => by simp [pres]
  | x :: a, b => by simp only [List.cons_append, pres, pres_app a b, List.append_assoc]
set_option maxHeartbeats 2000000 in
theorem gf144 (G : Nat → Option (List AV)) (l : List JV) (hl : l.length ≤ 140737488355328) (g : FuncId) (caps : List AV) (I : List JV → Heap → Nat → Prop) (Q : AV → Heap → Nat → Prop)
    (hcall : ∀ d x r h n (K : AV → Heap → Nat → Prop), l = d ++ x :: r → I d h n → (∀ h' n', n ≤ n' → I (d ++ [x]) h' n' → K (.sc (.bool false)) h' n') → (∀ h' n', n ≤ n' → Q (.sc (.int .i64 d.length)) h' n' → K (.sc (.bool true)) h' n') →
      Wk (Cf G) (.fn (.func g) caps) [.agg (enc x)] h n K)
    (hend : ∀ h n, I l h n → Q (.sc (.int .i64 (-1))) h n) {h : Heap} {n : Nat} (hI : I [] h n) : Gf (Cf G) 144 [.psl (encs l) l.length, .fn (.func g) caps] h n Q := by
  refine Gf_enter (C := Cf G) Tryz.func144 rfl ok144 (Nat.le_of_ble_eq_true rfl) ?_
  simp only [Tryz.f144, Option.getD_some]
  refine wB1 trivial ?_
  refine Gc_loop_inv (fun m st => ∃ d r, l = d ++ r ∧ m = r.length ∧ st.T 0 = .psl (encs l) l.length ∧ st.T 1 = .fn (.func g) caps ∧ st.T 7 = .sc (.int .i64 l.length) ∧ st.T 8 = .sc (.int .i64 d.length) ∧ I d st.h st.n) ?_ l.length _ ⟨[], l, rfl, rfl, ?_⟩
  · rintro m ⟨T, h, n⟩ ⟨d, r, hdr, rfl, h0, h1, h7, h8, hI⟩
    simp only at h0 h1 h7 h8 hI
    cases r with
    | nil =>
      have e : d = l := by simp [hdr]
      subst e
      have hge : ¬ (d.length : Int) < (d.length : Int) := by omega
      refine wB1 (wa h0 (wa h1 (wa h7 (wa h8 hge)))) ?_
      exact hend _ _ hI
    | cons x r =>
      have hlt : (d.length : Int) < (l.length : Int) := by rw [hdr]; simp; omega
      have hltn : d.length < l.length := by omega
      have hcut : cut (encs l) (d.length * 7) 7 = enc x := by rw [hdr]; exact cut_encs d x r
      have hle : d.length * 7 + 7 ≤ (encs l).length := by rw [encs_len]; omega
      have w1 : IntKind.i64.wrap ((d.length : Int) + 1) = (d.length : Int) + 1 := i64 (by omega) (by omega)
      refine wB1 (wa h0 (wa h1 (wa h7 (wa h8 (wa hlt (wa hltn (wa hcut hle))))))) ?_
      refine st_wk rfl rfl (by simp only [vop, val, argsT, upd_ap, Nat.reduceEqDiff, if_true, if_false, ite_true, ite_false, reduceIte, loadAt, loadA, AV.cells, AV.one, List.all_cons, List.all_nil, ofV, ofCell, plain, List.getElem?_cons_zero, List.getElem?_cons_succ, List.getElem?_toArray, Option.getD_some, Bool.not_true, Bool.not_false, Bool.false_eq_true, Bool.and_true, Bool.true_and, Bool.and_self, Nat.zero_add, Option.map_some, Option.bind_some, List.map_cons, List.map_nil, ev_add, ev_sub, ev_mul, ev_lss, ev_leq, ev_gtr, ev_geq, ev_eql, ev_neq, ev_seql, ev_sneq, ev_sleq, ev_slss, ev_not, ev_min, ev_max, asNat_nat, asNat_zero, asNat_one, asNat_two, asNat_three, vb_len, List.length_cons, List.length_nil, Nat.reduceAdd, Nat.reduceLeDiff, Nat.reduceMul, Int.reduceEq, Int.reduceLT, Int.reduceLE, Int.reduceNeg, Int.reduceAdd, Int.reduceSub, Nat.reduceLT, decide_true, decide_false, not_true_eq_false, not_false_eq_true, and_self, and_true, true_and, storeA, List.take_zero, List.drop_succ_cons, List.drop_zero, List.nil_append, List.append_nil, List.take_succ_cons, List.cons_append, cut_cons, cut_zero, cut_skip, tAt, hHide, hAt, upsAt, List.contains_cons, List.contains_nil, Nat.reduceBEq, Bool.or_true, Bool.true_or, Bool.or_false, Bool.false_or, Bool.or_self, Bool.and_true, Bool.true_and, Bool.and_false, Bool.false_and, beq_self_eq_true (α := Nat), Option.some_beq_some, Option.none_beq_some, Option.some_beq_none, Bool.false_eq_true, List.all_nil, touch, touchB, Nat.sub_self, List.range'_zero, Nat.add_sub_cancel_left, List.range'_one, h1]) (by simp only [vop, val, argsT, upd_ap, Nat.reduceEqDiff, if_true, if_false, ite_true, ite_false, reduceIte, loadAt, loadA, AV.cells, AV.one, List.all_cons, List.all_nil, ofV, ofCell, plain, List.getElem?_cons_zero, List.getElem?_cons_succ, List.getElem?_toArray, Option.getD_some, Bool.not_true, Bool.not_false, Bool.false_eq_true, Bool.and_true, Bool.true_and, Bool.and_self, Nat.zero_add, Option.map_some, Option.bind_some, List.map_cons, List.map_nil, ev_add, ev_sub, ev_mul, ev_lss, ev_leq, ev_gtr, ev_geq, ev_eql, ev_neq, ev_seql, ev_sneq, ev_sleq, ev_slss, ev_not, ev_min, ev_max, asNat_nat, asNat_zero, asNat_one, asNat_two, asNat_three, vb_len, List.length_cons, List.length_nil, Nat.reduceAdd, Nat.reduceLeDiff, Nat.reduceMul, Int.reduceEq, Int.reduceLT, Int.reduceLE, Int.reduceNeg, Int.reduceAdd, Int.reduceSub, Nat.reduceLT, decide_true, decide_false, not_true_eq_false, not_false_eq_true, and_self, and_true, true_and, storeA, List.take_zero, List.drop_succ_cons, List.drop_zero, List.nil_append, List.append_nil, List.take_succ_cons, List.cons_append, cut_cons, cut_zero, cut_skip, tAt, hHide, hAt, upsAt, List.contains_cons, List.contains_nil, Nat.reduceBEq, Bool.or_true, Bool.true_or, Bool.or_false, Bool.false_or, Bool.or_self, Bool.and_true, Bool.true_and, Bool.and_false, Bool.false_and, beq_self_eq_true (α := Nat), Option.some_beq_some, Option.none_beq_some, Option.some_beq_none, Bool.false_eq_true, List.all_nil, touch, touchB, Nat.sub_self, List.range'_zero, Nat.add_sub_cancel_left, List.range'_one, h8]) (hcall d x r _ _ _ hdr hI (fun h' n' hn' hI' => st_gn hn' rfl ?_) (fun h' n' hn' hq => st_gn hn' rfl ?_))
      · refine wB1 (wa h0 (wa h1 (wa h7 (wa h8 w1)))) ?_
        refine ⟨r.length, by simp, d ++ [x], r, by simp [hdr], rfl, ?_, ?_, ?_, ?_, hI'⟩
        all_goals simp [upd_ap, h0, h1, h7]
      · refine wB1 (wa h0 (wa h1 (wa h7 (wa h8 w1)))) ?_
        exact hq
  · simp [upd_ap, argsT, hI]
theorem gf88 (G : Nat → Option (List AV)) (l : List JV) (hl : l.length ≤ 140737488355328) (g : FuncId) (m : Nat) (I : List JV → Heap → Nat → Prop) (Q : AV → Heap → Nat → Prop)
    (hcall : ∀ d x r h n (K : AV → Heap → Nat → Prop), l = d ++ x :: r → I d h n → (∀ h' n', n ≤ n' → I (d ++ [x]) h' n' → K (.sc (.bool false)) h' n') → (∀ h' n', n ≤ n' → Q (.sc (.bool true)) h' n' → K (.sc (.bool true)) h' n') →
      Wk (Cf G) (.fn (.func g) [.ptr m 0]) [.agg (enc x)] h n K)
    (hend : ∀ h n, I l h n → Q (.sc (.bool false)) h n) {h : Heap} {n : Nat} (hI : I [] h n) : Gf (Cf G) 88 [.psl (encs l) l.length, .fn (.func g) [.ptr m 0]] h n Q := by
  refine Gf_enter (C := Cf G) Tryz.func88 rfl ok88 (Nat.le_of_ble_eq_true rfl) ?_
  simp only [Tryz.f88, Option.getD_some]
  refine wB1 trivial ?_
  refine st_walk rfl rfl rfl (by simp only [vop, val, argsT, upd_ap, Nat.reduceEqDiff, if_true, if_false, ite_true, ite_false, reduceIte, loadAt, loadA, AV.cells, AV.one, List.all_cons, List.all_nil, ofV, ofCell, plain, List.getElem?_cons_zero, List.getElem?_cons_succ, List.getElem?_toArray, Option.getD_some, Bool.not_true, Bool.not_false, Bool.false_eq_true, Bool.and_true, Bool.true_and, Bool.and_self, Nat.zero_add, Option.map_some, Option.bind_some, List.map_cons, List.map_nil, ev_add, ev_sub, ev_mul, ev_lss, ev_leq, ev_gtr, ev_geq, ev_eql, ev_neq, ev_seql, ev_sneq, ev_sleq, ev_slss, ev_not, ev_min, ev_max, asNat_nat, asNat_zero, asNat_one, asNat_two, asNat_three, vb_len, List.length_cons, List.length_nil, Nat.reduceAdd, Nat.reduceLeDiff, Nat.reduceMul, Int.reduceEq, Int.reduceLT, Int.reduceLE, Int.reduceNeg, Int.reduceAdd, Int.reduceSub, Nat.reduceLT, decide_true, decide_false, not_true_eq_false, not_false_eq_true, and_self, and_true, true_and, storeA, List.take_zero, List.drop_succ_cons, List.drop_zero, List.nil_append, List.append_nil, List.take_succ_cons, List.cons_append, cut_cons, cut_zero, cut_skip, tAt, hHide, hAt, upsAt, List.contains_cons, List.contains_nil, Nat.reduceBEq, Bool.or_true, Bool.true_or, Bool.or_false, Bool.false_or, Bool.or_self, Bool.and_true, Bool.true_and, Bool.and_false, Bool.false_and, beq_self_eq_true (α := Nat), Option.some_beq_some, Option.none_beq_some, Option.some_beq_none, Bool.false_eq_true, List.all_nil, touch, touchB, Nat.sub_self, List.range'_zero, Nat.add_sub_cancel_left, List.range'_one]; with_reducible rfl) rfl rfl ?_
  refine gf144 G l hl g [.ptr m 0] (fun d h' n' => n ≤ n' ∧ I d h' n') _ (fun d x r h' n' K hl hI hF hT => hcall d x r h' n' K hl hI.2 (fun h2 n2 hn2 hI2 => hF h2 n2 hn2 ⟨Nat.le_trans hI.1 hn2, hI2⟩) (fun h2 n2 hn2 hq => hT h2 n2 hn2 (st_gn (Nat.le_trans hI.1 hn2) rfl ?_))) (fun h' n' hI => st_gn hI.1 rfl ?_) ⟨Nat.le_refl _, hI⟩
  · have hge : (0 : Int) ≤ (d.length : Int) := by omega
    refine wB1 hge ?_
    exact hq
  · refine wB1 trivial ?_
    exact hend _ _ hI.2
section
variable (G : Nat → Option (List AV)) (b : Nat) (I : List JV → Heap → Nat → Prop) (S : Heap → Nat → Prop) (c : Nat) (P : List JV)
def RoundOk : Prop := ∀ d x h n (K : AV → Heap → Nat → Prop), Fit x → (∃ r, P = d ++ x :: r) → I d h n → c ≤ n → (∀ h' n', n ≤ n' → (∀ m, c ≤ m → m < n → h' m = h m) → I (d ++ [x]) h' n' → K (.sc (.bool true)) h' n') →
  (∀ h' n', n ≤ n' → S h' n' → K (.sc (.bool false)) h' n') → Wk (Cf G) (.fn (.yield b) []) [.agg (enc x)] h n K
def Stays : Prop := ∀ d h n h' n', I d h n → n ≤ n' → (∀ m, m < c → h' m = h m) → I d h' n'
def WalkOk (v : JV) : Prop := ∀ d h n (Q : AV → Heap → Nat → Prop), (∃ r, P = d ++ (pre v ++ r)) → c ≤ n → I d h n → (∀ h' n', n ≤ n' → (∀ m, c ≤ m → m < n → h' m = h m) → I (d ++ pre v) h' n' → Q (.sc (.bool true)) h' n') →
  (∀ h' n', n ≤ n' → S h' n' → Q (.sc (.bool false)) h' n') → Gf (Cf G) 152 [.agg (enc v), .fn (.yield b) []] h n Q
end
variable {G : Nat → Option (List AV)} {b : Nat} {I : List JV → Heap → Nat → Prop} {S : Heap → Nat → Prop} {c : Nat} {P : List JV}
theorem wk219 (hst : Stays I c) {x : JV} (hw : WalkOk G b I S c P x) {m : Nat} {d : List JV} (hP : ∃ r, P = d ++ (pre x ++ r)) {h : Heap} {n : Nat} (hm : h m = some (.cells [.fn (.yield b) []] 0 false)) (hcm : c ≤ m) (hmn : m < n) (hI : I d h n) (K : AV → Heap → Nat → Prop)
    (hF : ∀ h' n', n ≤ n' → (∀ m, c ≤ m → m < n → h' m = h m) → I (d ++ pre x) h' n' → K (.sc (.bool false)) h' n') (hT : ∀ h' n', n ≤ n' → S h' n' → K (.sc (.bool true)) h' n') :
    Wk (Cf G) (.fn (.func 219) [.ptr m 0]) [.agg (enc x)] h n K := by
  rw [Wk_box rfl]
  refine Gf.go ?_
  have hne : ¬ m = n := by omega
  obtain ⟨kk, ng, cf, ex, t, l, ks⟩ := x
  show Gf (Cf G) 219 [.agg (enc (.mk kk ng cf ex t l ks)), .ptr m 0] h n K
  refine Gf_enter (C := Cf G) Tryz.func219 rfl ok219 (Nat.le_of_ble_eq_true rfl) ?_
  simp only [Tryz.f219, Option.getD_some]
  simp only [enc]
  refine wB1 (wa hm hne) ?_
  refine st_walk rfl rfl rfl (by simp only [vop, val, argsT, upd_ap, Nat.reduceEqDiff, if_true, if_false, ite_true, ite_false, reduceIte, loadAt, loadA, AV.cells, AV.one, List.all_cons, List.all_nil, ofV, ofCell, plain, List.getElem?_cons_zero, List.getElem?_cons_succ, List.getElem?_toArray, Option.getD_some, Bool.not_true, Bool.not_false, Bool.false_eq_true, Bool.and_true, Bool.true_and, Bool.and_self, Nat.zero_add, Option.map_some, Option.bind_some, List.map_cons, List.map_nil, ev_add, ev_sub, ev_mul, ev_lss, ev_leq, ev_gtr, ev_geq, ev_eql, ev_neq, ev_seql, ev_sneq, ev_sleq, ev_slss, ev_not, ev_min, ev_max, asNat_nat, asNat_zero, asNat_one, asNat_two, asNat_three, vb_len, List.length_cons, List.length_nil, Nat.reduceAdd, Nat.reduceLeDiff, Nat.reduceMul, Int.reduceEq, Int.reduceLT, Int.reduceLE, Int.reduceNeg, Int.reduceAdd, Int.reduceSub, Nat.reduceLT, decide_true, decide_false, not_true_eq_false, not_false_eq_true, and_self, and_true, true_and, storeA, List.take_zero, List.drop_succ_cons, List.drop_zero, List.nil_append, List.append_nil, List.take_succ_cons, List.cons_append, cut_cons, cut_zero, cut_skip, tAt, hHide, hAt, upsAt, List.contains_cons, List.contains_nil, Nat.reduceBEq, Bool.or_true, Bool.true_or, Bool.or_false, Bool.false_or, Bool.or_self, Bool.and_true, Bool.true_and, Bool.and_false, Bool.false_and, beq_self_eq_true (α := Nat), Option.some_beq_some, Option.none_beq_some, Option.some_beq_none, Bool.false_eq_true, List.all_nil, touch, touchB, Nat.sub_self, List.range'_zero, Nat.add_sub_cancel_left, List.range'_one]; with_reducible rfl) rfl rfl ?_
  refine hw d _ _ _ hP (by omega) (hst d h n _ _ hI (Nat.le_succ n) (fun q hq => upd_ne _ _ (by omega))) (fun h' n' hn' hfr hI' => st_gn hn' rfl ?_) (fun h' n' hn' hs => st_gn hn' rfl ?_)
  · refine wB1 trivial ?_
    refine hF h' n' (by omega) (fun q h1 h2 => ?_) hI'
    rw [hfr q h1 (by omega), upd_ne _ _ (by omega)]
  · refine wB1 trivial ?_
    exact hT h' n' (by omega) hs
end Go.Proofs.Bv
namespace Go.Proofs.Bv
open Go
variable {G : Nat → Option (List AV)} {b : Nat} {I : List JV → Heap → Nat → Prop} {S : Heap → Nat → Prop} {c : Nat} {P : List JV}
set_option maxHeartbeats 2000000 in
theorem walk_ok (hst : Stays I c) (hround : RoundOk G b I S c P) : (v : JV) → Fit v → WalkOk G b I S c P v
  | .mk kk ng cf ex t l ks => fun hfit => by
    intro d h n Q ⟨rP, hP⟩ hcn hI hT hF
    have hnl := hfit.1.nlist
    have ih : ∀ x ∈ l, WalkOk G b I S c P x := fun x hx => walk_ok hst hround x (Fits_mem hfit.2 x hx)
    have hn1 : ¬ n = n + 1 := by omega
    refine Gf_enter (C := Cf G) Tryz.func152 rfl ok152 (Nat.le_of_ble_eq_true rfl) ?_
    simp only [Tryz.f152, Option.getD_some]
    simp only [enc]
    refine wB1 @hn1 ?_
    have hI2 := hst d h n (upd (upd h n (some (.cells (enc (.mk kk ng cf ex t l ks)) 0 false))) (n + 1) (some (.cells [.fn (.yield b) []] 0 false))) (n + 1 + 1) hI (by omega) (fun q hq => by rw [upd_ne _ _ (by omega), upd_ne _ _ (by omega)])
    refine st_wk rfl rfl (by simp only [vop, val, argsT, upd_ap, Nat.reduceEqDiff, if_true, if_false, ite_true, ite_false, reduceIte, loadAt, loadA, AV.cells, AV.one, List.all_cons, List.all_nil, ofV, ofCell, plain, List.getElem?_cons_zero, List.getElem?_cons_succ, List.getElem?_toArray, Option.getD_some, Bool.not_true, Bool.not_false, Bool.false_eq_true, Bool.and_true, Bool.true_and, Bool.and_self, Nat.zero_add, Option.map_some, Option.bind_some, List.map_cons, List.map_nil, ev_add, ev_sub, ev_mul, ev_lss, ev_leq, ev_gtr, ev_geq, ev_eql, ev_neq, ev_seql, ev_sneq, ev_sleq, ev_slss, ev_not, ev_min, ev_max, asNat_nat, asNat_zero, asNat_one, asNat_two, asNat_three, vb_len, List.length_cons, List.length_nil, Nat.reduceAdd, Nat.reduceLeDiff, Nat.reduceMul, Int.reduceEq, Int.reduceLT, Int.reduceLE, Int.reduceNeg, Int.reduceAdd, Int.reduceSub, Nat.reduceLT, decide_true, decide_false, not_true_eq_false, not_false_eq_true, and_self, and_true, true_and, storeA, List.take_zero, List.drop_succ_cons, List.drop_zero, List.nil_append, List.append_nil, List.take_succ_cons, List.cons_append, cut_cons, cut_zero, cut_skip, tAt, hHide, hAt, upsAt, List.contains_cons, List.contains_nil, Nat.reduceBEq, Bool.or_true, Bool.true_or, Bool.or_false, Bool.false_or, Bool.or_self, Bool.and_true, Bool.true_and, Bool.and_false, Bool.false_and, beq_self_eq_true (α := Nat), Option.some_beq_some, Option.none_beq_some, Option.some_beq_none, Bool.false_eq_true, List.all_nil, touch, touchB, Nat.sub_self, List.range'_zero, Nat.add_sub_cancel_left, List.range'_one]) (by simp only [vop, val, argsT, upd_ap, Nat.reduceEqDiff, if_true, if_false, ite_true, ite_false, reduceIte, loadAt, loadA, AV.cells, AV.one, List.all_cons, List.all_nil, ofV, ofCell, plain, List.getElem?_cons_zero, List.getElem?_cons_succ, List.getElem?_toArray, Option.getD_some, Bool.not_true, Bool.not_false, Bool.false_eq_true, Bool.and_true, Bool.true_and, Bool.and_self, Nat.zero_add, Option.map_some, Option.bind_some, List.map_cons, List.map_nil, ev_add, ev_sub, ev_mul, ev_lss, ev_leq, ev_gtr, ev_geq, ev_eql, ev_neq, ev_seql, ev_sneq, ev_sleq, ev_slss, ev_not, ev_min, ev_max, asNat_nat, asNat_zero, asNat_one, asNat_two, asNat_three, vb_len, List.length_cons, List.length_nil, Nat.reduceAdd, Nat.reduceLeDiff, Nat.reduceMul, Int.reduceEq, Int.reduceLT, Int.reduceLE, Int.reduceNeg, Int.reduceAdd, Int.reduceSub, Nat.reduceLT, decide_true, decide_false, not_true_eq_false, not_false_eq_true, and_self, and_true, true_and, storeA, List.take_zero, List.drop_succ_cons, List.drop_zero, List.nil_append, List.append_nil, List.take_succ_cons, List.cons_append, cut_cons, cut_zero, cut_skip, tAt, hHide, hAt, upsAt, List.contains_cons, List.contains_nil, Nat.reduceBEq, Bool.or_true, Bool.true_or, Bool.or_false, Bool.false_or, Bool.or_self, Bool.and_true, Bool.true_and, Bool.and_false, Bool.false_and, beq_self_eq_true (α := Nat), Option.some_beq_some, Option.none_beq_some, Option.some_beq_none, Bool.false_eq_true, List.all_nil, touch, touchB, Nat.sub_self, List.range'_zero, Nat.add_sub_cancel_left, List.range'_one, enc]) (hround d _ _ _ _ hfit ⟨pres l ++ rP, by rw [hP]; simp [pre]⟩ hI2 (by omega) (fun h' n' hn' hfr hI' => st_gn hn' rfl ?_) (fun h' n' hn' hs => st_gn hn' rfl ?_))
    · have q0 : h' n = some (.cells (enc (.mk kk ng cf ex t l ks)) 0 false) := by
        rw [hfr n hcn (by omega), upd_ne _ _ (by omega), upd_same]
        rfl
      have q1 : h' (n + 1) = some (.cells [.fn (.yield b) []] 0 false) := by
        rw [hfr (n + 1) (by omega) (by omega), upd_same]
      refine wB1 (wa q0 (wa q1 @Array.size_empty.{0})) ?_
      refine o_gw ?_
      refine st_walk rfl rfl rfl (by simp only [vop, val, argsT, upd_ap, Nat.reduceEqDiff, if_true, if_false, ite_true, ite_false, reduceIte, loadAt, loadA, AV.cells, AV.one, List.all_cons, List.all_nil, ofV, ofCell, plain, List.getElem?_cons_zero, List.getElem?_cons_succ, List.getElem?_toArray, Option.getD_some, Bool.not_true, Bool.not_false, Bool.false_eq_true, Bool.and_true, Bool.true_and, Bool.and_self, Nat.zero_add, Option.map_some, Option.bind_some, List.map_cons, List.map_nil, ev_add, ev_sub, ev_mul, ev_lss, ev_leq, ev_gtr, ev_geq, ev_eql, ev_neq, ev_seql, ev_sneq, ev_sleq, ev_slss, ev_not, ev_min, ev_max, asNat_nat, asNat_zero, asNat_one, asNat_two, asNat_three, vb_len, List.length_cons, List.length_nil, Nat.reduceAdd, Nat.reduceLeDiff, Nat.reduceMul, Int.reduceEq, Int.reduceLT, Int.reduceLE, Int.reduceNeg, Int.reduceAdd, Int.reduceSub, Nat.reduceLT, decide_true, decide_false, not_true_eq_false, not_false_eq_true, and_self, and_true, true_and, storeA, List.take_zero, List.drop_succ_cons, List.drop_zero, List.nil_append, List.append_nil, List.take_succ_cons, List.cons_append, cut_cons, cut_zero, cut_skip, tAt, hHide, hAt, upsAt, List.contains_cons, List.contains_nil, Nat.reduceBEq, Bool.or_true, Bool.true_or, Bool.or_false, Bool.false_or, Bool.or_self, Bool.and_true, Bool.true_and, Bool.and_false, Bool.false_and, beq_self_eq_true (α := Nat), Option.some_beq_some, Option.none_beq_some, Option.some_beq_none, Bool.false_eq_true, List.all_nil, touch, touchB, Nat.sub_self, List.range'_zero, Nat.add_sub_cancel_left, List.range'_one]; with_reducible rfl) rfl rfl ?_
      refine gf88 G l (by omega) 219 (n + 1) (fun e h2 n2 => n' ≤ n2 ∧ (∀ m, c ≤ m → m < n' → h2 m = h' m) ∧ I (d ++ .mk kk ng cf ex t l ks :: pres e) h2 n2) _ ?_ ?_ ⟨Nat.le_refl _, fun _ _ _ => rfl, by simpa [pres] using hI'⟩
      · rintro e x r h2 n2 K hl ⟨hn2, hfr2, hI2⟩ hF2 hT2
        refine wk219 hst (ih x (by rw [hl]; simp)) (d := d ++ .mk kk ng cf ex t l ks :: pres e) ⟨pres r ++ rP, by rw [hP]; simp only [pre]; rw [hl, pres_app]; simp [pres]⟩ (by rw [hfr2 (n + 1) (by omega) (by omega), q1]) (by omega) (by omega) hI2 K (fun h3 n3 hn3 hfr3 hI3 => hF2 h3 n3 hn3 ⟨by omega, fun m h1 h2 => ?_, ?_⟩) (fun h3 n3 hn3 hs => hT2 h3 n3 hn3 (st_gn (by omega) rfl ?_))
        · rw [hfr3 m h1 (by omega), hfr2 m h1 h2]
        · have e2 : d ++ JV.mk kk ng cf ex t l ks :: pres (e ++ [x]) = (d ++ JV.mk kk ng cf ex t l ks :: pres e) ++ pre x := by
            rw [pres_app]
            simp [pres]
          rw [e2]
          exact hI3
        · refine wB1 trivial ?_
          exact hF h3 n3 (by omega) hs
      · rintro h2 n2 ⟨hn2, hfr2, hI2⟩
        refine st_gn hn2 rfl ?_
        refine wB1 trivial ?_
        refine hT h2 n2 (by omega) (fun m h1 h3 => ?_) ?_
        · rw [hfr2 m h1 (by omega), hfr m h1 (by omega), upd_ne _ _ (by omega), upd_ne _ _ (by omega)]
        · simpa [pre] using hI2
    · refine wB1 trivial ?_
      exact hF h' n' (by omega) hs
  termination_by v => v
  decreasing_by
    simp_wf
    have := List.sizeOf_lt_of_mem hx
    omega
theorem gf151 (hst : Stays I c) (v : JV) (hround : RoundOk G b I S c (pre v)) (hfit : Fit v) (h : Heap) (n : Nat) (hcn : c ≤ n) (hI : I [] h n) (Q : AV → Heap → Nat → Prop) (hT : ∀ h' n', n ≤ n' → I (pre v) h' n' → Q (.tup []) h' n') (hF : ∀ h' n', n ≤ n' → S h' n' → Q (.tup []) h' n') :
    Gf (Cf G) 151 [.fn (.yield b) [], .pptr (enc v) 0] h n Q := by
  have hw := walk_ok hst hround v hfit
  obtain ⟨kk, ng, cf, ex, t, l, ks⟩ := v
  refine Gf_enter (C := Cf G) Tryz.func151 rfl ok151 (Nat.le_of_ble_eq_true rfl) ?_
  simp only [Tryz.f151, Option.getD_some]
  simp only [enc]
  refine wB1 trivial ?_
  refine st_walk rfl rfl rfl (by simp only [vop, val, argsT, upd_ap, Nat.reduceEqDiff, if_true, if_false, ite_true, ite_false, reduceIte, loadAt, loadA, AV.cells, AV.one, List.all_cons, List.all_nil, ofV, ofCell, plain, List.getElem?_cons_zero, List.getElem?_cons_succ, List.getElem?_toArray, Option.getD_some, Bool.not_true, Bool.not_false, Bool.false_eq_true, Bool.and_true, Bool.true_and, Bool.and_self, Nat.zero_add, Option.map_some, Option.bind_some, List.map_cons, List.map_nil, ev_add, ev_sub, ev_mul, ev_lss, ev_leq, ev_gtr, ev_geq, ev_eql, ev_neq, ev_seql, ev_sneq, ev_sleq, ev_slss, ev_not, ev_min, ev_max, asNat_nat, asNat_zero, asNat_one, asNat_two, asNat_three, vb_len, List.length_cons, List.length_nil, Nat.reduceAdd, Nat.reduceLeDiff, Nat.reduceMul, Int.reduceEq, Int.reduceLT, Int.reduceLE, Int.reduceNeg, Int.reduceAdd, Int.reduceSub, Nat.reduceLT, decide_true, decide_false, not_true_eq_false, not_false_eq_true, and_self, and_true, true_and, storeA, List.take_zero, List.drop_succ_cons, List.drop_zero, List.nil_append, List.append_nil, List.take_succ_cons, List.cons_append, cut_cons, cut_zero, cut_skip, tAt, hHide, hAt, upsAt, List.contains_cons, List.contains_nil, Nat.reduceBEq, Bool.or_true, Bool.true_or, Bool.or_false, Bool.false_or, Bool.or_self, Bool.and_true, Bool.true_and, Bool.and_false, Bool.false_and, beq_self_eq_true (α := Nat), Option.some_beq_some, Option.none_beq_some, Option.some_beq_none, Bool.false_eq_true, List.all_nil, touch, touchB, Nat.sub_self, List.range'_zero, Nat.add_sub_cancel_left, List.range'_one]; with_reducible rfl) rfl rfl ?_
  refine hw [] _ _ _ ⟨[], by simp⟩ hcn hI (fun h' n' hn' hfr hI' => st_gn hn' rfl ?_) (fun h' n' hn' hs => st_gn hn' rfl ?_)
  · refine wB1 trivial ?_
    exact hT h' n' hn' hI'
  · refine wB1 trivial ?_
    exact hF h' n' hn' hs
theorem pc95 (G : Nat → Option (List AV)) (v : JV) : Pc (Cf G) 95 [.agg (enc v)] (.fn (.func 151) [.pptr (enc v) 0]) := by
  obtain ⟨kk, ng, cf, ex, t, l, ks⟩ := v
  refine Pc_of (Gf_enter (C := Cf G) Tryz.func95 rfl ok95 (Nat.le_of_ble_eq_true rfl) ?_)
  simp only [Tryz.f95, Option.getD_some]
  simp only [enc]
  refine wB1 @Array.size_empty.{0} ?_
  rfl
end Go.Proofs.Bv
