/-
  A part of the proof of KindsBackUptoCardSaid: BkUnent, BkLawB.
  Conditions: those that each part names.
-/
import Derived.Test.YtegdndonafbcdaaGreatDoorKb23
set_option linter.unusedSimpArgs false
set_option linter.unusedVariables false
namespace Go.Proofs.Bv
open Go
theorem ok35 : codeOk 52 (Tryz.f35.body.getD .skip) = true := by kernel_rfl
theorem tl_ne {a b : ByteArray} (h : (a.data.toList == b.data.toList) = false) : ¬ (a.toList == b.toList) = true := by
  rw [ByteArray.toList_eq, ByteArray.toList_eq, h]
  decide
theorem idx_key : idxS [keyB, valueB] keyB 0 = 0 := by
  unfold idxS
  rw [if_pos (by simp)]
  rfl
theorem idx_value : idxS [keyB, valueB] valueB 0 = 1 := by
  unfold idxS
  rw [if_neg (tl_ne (by decide))]
  unfold idxS
  rw [if_pos (by simp)]
  rfl
theorem idx_v : idxS [keyB, valueB] vB 0 = -1 := by
  unfold idxS
  rw [if_neg (tl_ne (by decide))]
  unfold idxS
  rw [if_neg (tl_ne (by decide))]
  rfl
theorem first_key (k : ByteArray) (x : JV) : firstR [keyB, valueB] [textV k, x] [keyB, kB, nameB] zeroV = textV k := by
  have h : getV [keyB, valueB] [textV k, x] keyB = some (textV k) := by unfold getV; rw [idx_key]; rfl
  simp only [firstR, h]
  rw [if_pos (show truth (textV k) = true from rfl)]
theorem first_val (k : ByteArray) (x : JV) : firstR [keyB, valueB] [textV k, x] [valueB, vB] zeroV = x := by
  have h : getV [keyB, valueB] [textV k, x] valueB = some x := by unfold getV; rw [idx_value]; rfl
  have h2 : getV [keyB, valueB] [textV k, x] vB = none := by unfold getV; rw [idx_v]; rfl
  simp only [firstR, h, h2]
  split <;> rfl
def objZ : List AV := [.sc (.int .i64 6), .sc (.bool false), .nilS, .sc (.int .i64 0), .sc (.string ⟨#[]⟩), .nilS, .nilS]
set_option maxHeartbeats 8000000 in
set_option maxRecDepth 100000 in
theorem pc35 (G : Nat → Option (List AV)) (l : List JV) (ks : List ByteArray) (hl : ks.length = l.length) (hn : l.length ≤ 4096) (hks : ∀ s ∈ ks, s.size ≤ 140737488355328) (hf : Fits l) (hp : ks.Pairwise bl)
    (hc : chk (.mk 5 false [] 0 ⟨#[]⟩ ((ks.zip l).map entV) []) = 0) :
    Pc (C4 G) 35 [.agg (enc (.mk 5 false [] 0 ⟨#[]⟩ ((ks.zip l).map entV) []))] (encE (whole (objW l ks) 0)) := by
  have hEf := ent_fit hf hks hn
  have h1 := orcL_of (pc44 G _ hEf)
  rw [hc] at h1
  have hzl : (ks.zip l).length = ks.length := by rw [List.length_zip]; omega
  have hof : Fit (objW l ks) := ⟨⟨by omega, by omega, by simp, by simp, by simp [ByteArray.size], by omega, by omega, hks⟩, hf⟩
  have h47 := orcL_of (pc47 G (objW l ks) 0 hof)
  generalize hW : whole (objW l ks) 0 = W at *
  obtain ⟨⟨k1, g1, c1, e1, w1, l1, s1⟩, f1⟩ := W
  generalize hE : (ks.zip l).map entV = E at *
  have hEl : E.length = ks.length := by rw [← hE, List.length_map, hzl]
  simp only [encE, enc, u32s, strs, List.map_nil, List.length_nil] at h1 ⊢
  refine Pc_of (Gf_enter (C := C4 G) Tryz.func35 rfl ok35 (Nat.le_of_ble_eq_true rfl) ?_)
  simp only [Tryz.f35, Option.getD_some]
  refine wC1 h1 trivial ?_
  refine Gc_loop_inv (fun m st => ∃ d Z, d + m = ks.length ∧ 3 ≤ st.n ∧ st.T 1 = .ptr 0 0 ∧ st.T 2 = .ptr 1 0 ∧ st.T 5 = .ptr 2 0 ∧ st.T 22 = .psl (encs E) E.length ∧ st.T 23 = .sc (.int .i64 E.length) ∧ st.T 24 = .sc (.int .i64 d) ∧
    st.h 1 = some (.cells [.sc (.int .i64 0), .sc (.bool false), .nilS, .sc (.int .i64 0), .sc (.string ⟨#[]⟩), .nilS, .nilS] 0 false) ∧
    st.h 2 = some (.cells Z 0 false) ∧ ((Z = objZ ∧ d = 0) ∨ Z = enc (objW (l.take d) (ks.take d)))) ?_ ks.length _ ⟨0, objZ, Nat.zero_add _, Nat.le_refl _, rfl, rfl, rfl, rfl, rfl, rfl, rfl, rfl, .inl ⟨rfl, rfl⟩⟩
  rintro m ⟨T, h, n⟩ ⟨d, Z, hdm, hn3, t1, t2, t5, t22, t23, t24, q1, q2, hZ⟩
  simp only at hn3 t1 t2 t5 t22 t23 t24 q1 q2
  cases m with
  | zero =>
    have e : d = ks.length := by omega
    subst e
    have hge : ¬ (ks.length : Int) < (E.length : Int) := by omega
    rw [List.take_of_length_le (by omega), List.take_of_length_le (Nat.le_refl _)] at hZ
    rcases hZ with ⟨rfl, h0⟩ | rfl
    · have hk0 : ks = [] := List.eq_nil_of_length_eq_zero h0
      have hl0 : l = [] := List.eq_nil_of_length_eq_zero (by rw [← hl]; exact h0)
      have hge0 : ¬ ((0 : Nat) : Int) < (E.length : Int) := by rw [hEl, hk0]; simp
      have hge1 : ¬ (0 : Int) < (E.length : Int) := hge0
      subst hk0; subst hl0
      simp only [objW, objZ, enc, encs, u32s, strs, List.map_nil, List.length_nil] at h47 q2
      refine wF1 (wa t1 (wa t2 (wa t5 (wa t22 (wa t23 (wa t24 (wa q1 (wa q2 (wa hge0 (wa hge1 @shut_nil)))))))))) (wa h47 trivial) ?_
      simp only [one1, frz_t, frz_a, mapF, frz_s, frz_l, frz_n, Option.map_some, List.append_nil]
    · simp only [objW, enc, u32s, strs, List.map_nil, List.length_nil] at h47 q2
      refine wC1 (wa t1 (wa t2 (wa t5 (wa t22 (wa t23 (wa t24 (wa q1 (wa q2 (wa hge h47))))))))) trivial ?_
      simp only [one1, frz_t, frz_a, mapF, frz_s, frz_l, frz_n, Option.map_some, List.append_nil]
  | succ m =>
    have hkn : d < ks.length := by omega
    have hlt : (d : Int) < (E.length : Int) := by omega
    have hdE : d < E.length := by omega
    have hkl : d < l.length := by omega
    obtain ⟨s, hs⟩ : ∃ s, ks[d]? = some s := ⟨ks[d], List.getElem?_eq_getElem hkn⟩
    obtain ⟨y, hy⟩ : ∃ y, l[d]? = some y := ⟨l[d], List.getElem?_eq_getElem hkl⟩
    have hz : (ks.zip l)[d]? = some (s, y) := by rw [List.getElem?_zip_eq_some]; exact ⟨hs, hy⟩
    have hEd : E[d]? = some (entV (s, y)) := by rw [← hE, List.getElem?_map, hz]; rfl
    obtain ⟨hcut, hle⟩ := load7 hEd
    have hfe : Fit (entV (s, y)) := Fits_mem hEf.2 _ (by rw [← hE] at hEd; exact List.mem_of_getElem? (by rw [hE] at hEd; exact hEd))
    have h81 := orcL_of (pc81 G false [] 0 ⟨#[]⟩ [textV s, y] [keyB, valueB] hfe rfl s (first_key s y))
    have h83 := orcL_of (pc83 G false [] 0 ⟨#[]⟩ [textV s, y] [keyB, valueB] [valueB, vB] hfe rfl (by simp))
    rw [first_val] at h83
    have hbl : ∀ k ∈ ks.take d, bl k s := by
      intro k hk
      obtain ⟨hd', hsd⟩ := List.getElem?_eq_some_iff.1 hs
      have e : ks = ks.take d ++ ks[d] :: ks.drop (d + 1) := by rw [← List.drop_eq_getElem_cons hd', List.take_append_drop]
      rw [e] at hp
      rw [← hsd]
      exact (List.pairwise_append.1 hp).2.2 k hk _ List.mem_cons_self
    have h82 := orcWith_of (l.take d) (ks.take d) s y (by rw [List.length_take, List.length_take]; omega) (by rw [List.length_take]; omega) hbl
    have tl : l.take (d + 1) = l.take d ++ [y] := by rw [List.take_add_one, hy]; rfl
    have tk : ks.take (d + 1) = ks.take d ++ [s] := by rw [List.take_add_one, hs]; rfl
    rw [← tl, ← tk] at h82
    have w4 : IntKind.i64.wrap ((d : Int) + 1) = ((d + 1 : Nat) : Int) := by rw [i64 (by omega) (by omega)]; omega
    have hEne : ¬ E.length = 0 := by omega
    have x0 : ¬ 1 = n := by omega
    have x0b : (1 == n) = false := beq_false_of_ne (by omega)
    have x1 : ¬ 1 = n + 1 := by omega
    have x1b : (1 == n + 1) = false := beq_false_of_ne (by omega)
    have x2 : ¬ 2 = n := by omega
    have x2b : (2 == n) = false := beq_false_of_ne (by omega)
    have x3 : ¬ 2 = n + 1 := by omega
    have x3b : (2 == n + 1) = false := beq_false_of_ne (by omega)
    have x4 : ¬ n = 1 := by omega
    have x4b : (n == 1) = false := beq_false_of_ne (by omega)
    have x5 : ¬ n = 2 := by omega
    have x5b : (n == 2) = false := beq_false_of_ne (by omega)
    have x6 : ¬ n = n + 1 := by omega
    have x6b : (n == n + 1) = false := beq_false_of_ne (by omega)
    have x7 : ¬ n + 1 = 1 := by omega
    have x7b : (n + 1 == 1) = false := beq_false_of_ne (by omega)
    have x8 : ¬ n + 1 = 2 := by omega
    have x8b : (n + 1 == 2) = false := beq_false_of_ne (by omega)
    have x9 : ¬ n + 1 = n := by omega
    have x9b : (n + 1 == n) = false := beq_false_of_ne (by omega)
    obtain ⟨yk, yg, yc, ye, yt, yl, ys⟩ := y
    simp only [entV, objW, enc, strs, List.map_cons, List.map_nil, keyB, valueB, vB, List.length_nil, List.length_cons, Nat.zero_add, Nat.reduceAdd] at h81 h83 h82 hcut
    rcases hZ with ⟨rfl, rfl⟩ | rfl
    · simp only [objZ] at q2
      have w4' : IntKind.i64.wrap (((0 : Nat) : Int) + 1) = ((0 + 1 : Nat) : Int) := w4
      simp only [List.take_zero, encs, List.map_nil, List.length_nil, u32s] at h82
      simp only [Nat.zero_mul, u32s, List.map_nil] at hcut hle h81 h83
      have hlt0 : ((0 : Nat) : Int) < (E.length : Int) := hlt
      have hlt1 : (0 : Int) < (E.length : Int) := hlt
      have w4'' : IntKind.i64.wrap ((0 : Int) + 1) = ((0 + 1 : Nat) : Int) := w4
      refine gF1 (wa t1 (wa t2 (wa t5 (wa t22 (wa t23 (wa t24 (wa q1 (wa q2 (wa hlt (wa hlt0 (wa hlt1 (wa hdE (wa hcut (wa hle (wa h81 (wa h83 (wa w4 (wa w4' (wa w4'' (wa @shut_nil (wa x0 (wa x0b (wa x1 (wa x1b (wa x2 (wa x2b (wa x3 (wa x3b (wa x4 (wa x4b (wa x5 (wa x5b (wa x6 (wa x6b (wa x7 (wa x7b (wa x8 (wa x8b (wa x9 x9b))))))))))))))))))))))))))))))))))))))) (wa h83 (wa h82 trivial)) ?_
      refine ⟨m, by omega, 0 + 1, enc (objW (l.take (0 + 1)) (ks.take (0 + 1))), by omega, by simp only; omega, ?_, ?_, ?_, ?_, ?_, ?_, ?_, ?_, .inr rfl⟩
      · simp only [vop, val, argsT, upd_ap, Nat.reduceEqDiff, if_true, if_false, ite_true, ite_false, reduceIte, loadAt, loadA, AV.cells, AV.one, List.all_cons, List.all_nil, ofV, ofCell, plain, List.getElem?_cons_zero, List.getElem?_cons_succ, List.getElem?_toArray, Option.getD_some, Bool.not_true, Bool.not_false, Bool.false_eq_true, Bool.and_true, Bool.true_and, Bool.and_self, Nat.zero_add, Option.map_some, Option.bind_some, List.map_cons, List.map_nil, ev_add, ev_sub, ev_mul, ev_lss, ev_leq, ev_gtr, ev_geq, ev_eql, ev_neq, ev_seql, ev_sneq, ev_sleq, ev_slss, ev_not, ev_min, ev_max, asNat_nat, asNat_zero, asNat_one, asNat_two, asNat_three, vb_len, List.length_cons, List.length_nil, Nat.reduceAdd, Nat.reduceLeDiff, Nat.reduceMul, Int.reduceEq, Int.reduceLT, Int.reduceLE, Int.reduceNeg, Int.reduceAdd, Int.reduceSub, Nat.reduceLT, decide_true, decide_false, not_true_eq_false, not_false_eq_true, and_self, and_true, true_and, storeA, List.take_zero, List.drop_succ_cons, List.drop_zero, List.nil_append, List.append_nil, List.take_succ_cons, List.cons_append, cut_cons, cut_zero, cut_skip, tAt, hHide, hAt, upsAt, List.contains_cons, List.contains_nil, Nat.reduceBEq, Bool.or_true, Bool.true_or, Bool.or_false, Bool.false_or, Bool.or_self, Bool.and_true, Bool.true_and, Bool.and_false, Bool.false_and, beq_self_eq_true (α := Nat), Option.some_beq_some, Option.none_beq_some, Option.some_beq_none, Bool.false_eq_true, List.all_nil, touch, touchB, Nat.sub_self, List.range'_zero, Nat.add_sub_cancel_left, List.range'_one, t1, x0, x0b, x1, x1b, x2, x2b, x3, x3b, x4, x4b, x5, x5b, x6, x6b, x7, x7b, x8, x8b, x9, x9b]
      · simp only [vop, val, argsT, upd_ap, Nat.reduceEqDiff, if_true, if_false, ite_true, ite_false, reduceIte, loadAt, loadA, AV.cells, AV.one, List.all_cons, List.all_nil, ofV, ofCell, plain, List.getElem?_cons_zero, List.getElem?_cons_succ, List.getElem?_toArray, Option.getD_some, Bool.not_true, Bool.not_false, Bool.false_eq_true, Bool.and_true, Bool.true_and, Bool.and_self, Nat.zero_add, Option.map_some, Option.bind_some, List.map_cons, List.map_nil, ev_add, ev_sub, ev_mul, ev_lss, ev_leq, ev_gtr, ev_geq, ev_eql, ev_neq, ev_seql, ev_sneq, ev_sleq, ev_slss, ev_not, ev_min, ev_max, asNat_nat, asNat_zero, asNat_one, asNat_two, asNat_three, vb_len, List.length_cons, List.length_nil, Nat.reduceAdd, Nat.reduceLeDiff, Nat.reduceMul, Int.reduceEq, Int.reduceLT, Int.reduceLE, Int.reduceNeg, Int.reduceAdd, Int.reduceSub, Nat.reduceLT, decide_true, decide_false, not_true_eq_false, not_false_eq_true, and_self, and_true, true_and, storeA, List.take_zero, List.drop_succ_cons, List.drop_zero, List.nil_append, List.append_nil, List.take_succ_cons, List.cons_append, cut_cons, cut_zero, cut_skip, tAt, hHide, hAt, upsAt, List.contains_cons, List.contains_nil, Nat.reduceBEq, Bool.or_true, Bool.true_or, Bool.or_false, Bool.false_or, Bool.or_self, Bool.and_true, Bool.true_and, Bool.and_false, Bool.false_and, beq_self_eq_true (α := Nat), Option.some_beq_some, Option.none_beq_some, Option.some_beq_none, Bool.false_eq_true, List.all_nil, touch, touchB, Nat.sub_self, List.range'_zero, Nat.add_sub_cancel_left, List.range'_one, t2, x0, x0b, x1, x1b, x2, x2b, x3, x3b, x4, x4b, x5, x5b, x6, x6b, x7, x7b, x8, x8b, x9, x9b]
      · simp only [vop, val, argsT, upd_ap, Nat.reduceEqDiff, if_true, if_false, ite_true, ite_false, reduceIte, loadAt, loadA, AV.cells, AV.one, List.all_cons, List.all_nil, ofV, ofCell, plain, List.getElem?_cons_zero, List.getElem?_cons_succ, List.getElem?_toArray, Option.getD_some, Bool.not_true, Bool.not_false, Bool.false_eq_true, Bool.and_true, Bool.true_and, Bool.and_self, Nat.zero_add, Option.map_some, Option.bind_some, List.map_cons, List.map_nil, ev_add, ev_sub, ev_mul, ev_lss, ev_leq, ev_gtr, ev_geq, ev_eql, ev_neq, ev_seql, ev_sneq, ev_sleq, ev_slss, ev_not, ev_min, ev_max, asNat_nat, asNat_zero, asNat_one, asNat_two, asNat_three, vb_len, List.length_cons, List.length_nil, Nat.reduceAdd, Nat.reduceLeDiff, Nat.reduceMul, Int.reduceEq, Int.reduceLT, Int.reduceLE, Int.reduceNeg, Int.reduceAdd, Int.reduceSub, Nat.reduceLT, decide_true, decide_false, not_true_eq_false, not_false_eq_true, and_self, and_true, true_and, storeA, List.take_zero, List.drop_succ_cons, List.drop_zero, List.nil_append, List.append_nil, List.take_succ_cons, List.cons_append, cut_cons, cut_zero, cut_skip, tAt, hHide, hAt, upsAt, List.contains_cons, List.contains_nil, Nat.reduceBEq, Bool.or_true, Bool.true_or, Bool.or_false, Bool.false_or, Bool.or_self, Bool.and_true, Bool.true_and, Bool.and_false, Bool.false_and, beq_self_eq_true (α := Nat), Option.some_beq_some, Option.none_beq_some, Option.some_beq_none, Bool.false_eq_true, List.all_nil, touch, touchB, Nat.sub_self, List.range'_zero, Nat.add_sub_cancel_left, List.range'_one, t5, x0, x0b, x1, x1b, x2, x2b, x3, x3b, x4, x4b, x5, x5b, x6, x6b, x7, x7b, x8, x8b, x9, x9b]
      · simp only [vop, val, argsT, upd_ap, Nat.reduceEqDiff, if_true, if_false, ite_true, ite_false, reduceIte, loadAt, loadA, AV.cells, AV.one, List.all_cons, List.all_nil, ofV, ofCell, plain, List.getElem?_cons_zero, List.getElem?_cons_succ, List.getElem?_toArray, Option.getD_some, Bool.not_true, Bool.not_false, Bool.false_eq_true, Bool.and_true, Bool.true_and, Bool.and_self, Nat.zero_add, Option.map_some, Option.bind_some, List.map_cons, List.map_nil, ev_add, ev_sub, ev_mul, ev_lss, ev_leq, ev_gtr, ev_geq, ev_eql, ev_neq, ev_seql, ev_sneq, ev_sleq, ev_slss, ev_not, ev_min, ev_max, asNat_nat, asNat_zero, asNat_one, asNat_two, asNat_three, vb_len, List.length_cons, List.length_nil, Nat.reduceAdd, Nat.reduceLeDiff, Nat.reduceMul, Int.reduceEq, Int.reduceLT, Int.reduceLE, Int.reduceNeg, Int.reduceAdd, Int.reduceSub, Nat.reduceLT, decide_true, decide_false, not_true_eq_false, not_false_eq_true, and_self, and_true, true_and, storeA, List.take_zero, List.drop_succ_cons, List.drop_zero, List.nil_append, List.append_nil, List.take_succ_cons, List.cons_append, cut_cons, cut_zero, cut_skip, tAt, hHide, hAt, upsAt, List.contains_cons, List.contains_nil, Nat.reduceBEq, Bool.or_true, Bool.true_or, Bool.or_false, Bool.false_or, Bool.or_self, Bool.and_true, Bool.true_and, Bool.and_false, Bool.false_and, beq_self_eq_true (α := Nat), Option.some_beq_some, Option.none_beq_some, Option.some_beq_none, Bool.false_eq_true, List.all_nil, touch, touchB, Nat.sub_self, List.range'_zero, Nat.add_sub_cancel_left, List.range'_one, t22, x0, x0b, x1, x1b, x2, x2b, x3, x3b, x4, x4b, x5, x5b, x6, x6b, x7, x7b, x8, x8b, x9, x9b]
      · simp only [vop, val, argsT, upd_ap, Nat.reduceEqDiff, if_true, if_false, ite_true, ite_false, reduceIte, loadAt, loadA, AV.cells, AV.one, List.all_cons, List.all_nil, ofV, ofCell, plain, List.getElem?_cons_zero, List.getElem?_cons_succ, List.getElem?_toArray, Option.getD_some, Bool.not_true, Bool.not_false, Bool.false_eq_true, Bool.and_true, Bool.true_and, Bool.and_self, Nat.zero_add, Option.map_some, Option.bind_some, List.map_cons, List.map_nil, ev_add, ev_sub, ev_mul, ev_lss, ev_leq, ev_gtr, ev_geq, ev_eql, ev_neq, ev_seql, ev_sneq, ev_sleq, ev_slss, ev_not, ev_min, ev_max, asNat_nat, asNat_zero, asNat_one, asNat_two, asNat_three, vb_len, List.length_cons, List.length_nil, Nat.reduceAdd, Nat.reduceLeDiff, Nat.reduceMul, Int.reduceEq, Int.reduceLT, Int.reduceLE, Int.reduceNeg, Int.reduceAdd, Int.reduceSub, Nat.reduceLT, decide_true, decide_false, not_true_eq_false, not_false_eq_true, and_self, and_true, true_and, storeA, List.take_zero, List.drop_succ_cons, List.drop_zero, List.nil_append, List.append_nil, List.take_succ_cons, List.cons_append, cut_cons, cut_zero, cut_skip, tAt, hHide, hAt, upsAt, List.contains_cons, List.contains_nil, Nat.reduceBEq, Bool.or_true, Bool.true_or, Bool.or_false, Bool.false_or, Bool.or_self, Bool.and_true, Bool.true_and, Bool.and_false, Bool.false_and, beq_self_eq_true (α := Nat), Option.some_beq_some, Option.none_beq_some, Option.some_beq_none, Bool.false_eq_true, List.all_nil, touch, touchB, Nat.sub_self, List.range'_zero, Nat.add_sub_cancel_left, List.range'_one, t23, x0, x0b, x1, x1b, x2, x2b, x3, x3b, x4, x4b, x5, x5b, x6, x6b, x7, x7b, x8, x8b, x9, x9b]
      · first | (simp [upd_ap]; done) | (simp only [vop, val, argsT, upd_ap, Nat.reduceEqDiff, if_true, if_false, ite_true, ite_false, reduceIte, loadAt, loadA, AV.cells, AV.one, List.all_cons, List.all_nil, ofV, ofCell, plain, List.getElem?_cons_zero, List.getElem?_cons_succ, List.getElem?_toArray, Option.getD_some, Bool.not_true, Bool.not_false, Bool.false_eq_true, Bool.and_true, Bool.true_and, Bool.and_self, Nat.zero_add, Option.map_some, Option.bind_some, List.map_cons, List.map_nil, ev_add, ev_sub, ev_mul, ev_lss, ev_leq, ev_gtr, ev_geq, ev_eql, ev_neq, ev_seql, ev_sneq, ev_sleq, ev_slss, ev_not, ev_min, ev_max, asNat_nat, asNat_zero, asNat_one, asNat_two, asNat_three, vb_len, List.length_cons, List.length_nil, Nat.reduceAdd, Nat.reduceLeDiff, Nat.reduceMul, Int.reduceEq, Int.reduceLT, Int.reduceLE, Int.reduceNeg, Int.reduceAdd, Int.reduceSub, Nat.reduceLT, decide_true, decide_false, not_true_eq_false, not_false_eq_true, and_self, and_true, true_and, storeA, List.take_zero, List.drop_succ_cons, List.drop_zero, List.nil_append, List.append_nil, List.take_succ_cons, List.cons_append, cut_cons, cut_zero, cut_skip, tAt, hHide, hAt, upsAt, List.contains_cons, List.contains_nil, Nat.reduceBEq, Bool.or_true, Bool.true_or, Bool.or_false, Bool.false_or, Bool.or_self, Bool.and_true, Bool.true_and, Bool.and_false, Bool.false_and, beq_self_eq_true (α := Nat), Option.some_beq_some, Option.none_beq_some, Option.some_beq_none, Bool.false_eq_true, List.all_nil, touch, touchB, Nat.sub_self, List.range'_zero, Nat.add_sub_cancel_left, List.range'_one]; exact congrArg (fun z => AV.sc (Value.int IntKind.i64 z)) w4'')
      · simp only [vop, val, argsT, upd_ap, Nat.reduceEqDiff, if_true, if_false, ite_true, ite_false, reduceIte, loadAt, loadA, AV.cells, AV.one, List.all_cons, List.all_nil, ofV, ofCell, plain, List.getElem?_cons_zero, List.getElem?_cons_succ, List.getElem?_toArray, Option.getD_some, Bool.not_true, Bool.not_false, Bool.false_eq_true, Bool.and_true, Bool.true_and, Bool.and_self, Nat.zero_add, Option.map_some, Option.bind_some, List.map_cons, List.map_nil, ev_add, ev_sub, ev_mul, ev_lss, ev_leq, ev_gtr, ev_geq, ev_eql, ev_neq, ev_seql, ev_sneq, ev_sleq, ev_slss, ev_not, ev_min, ev_max, asNat_nat, asNat_zero, asNat_one, asNat_two, asNat_three, vb_len, List.length_cons, List.length_nil, Nat.reduceAdd, Nat.reduceLeDiff, Nat.reduceMul, Int.reduceEq, Int.reduceLT, Int.reduceLE, Int.reduceNeg, Int.reduceAdd, Int.reduceSub, Nat.reduceLT, decide_true, decide_false, not_true_eq_false, not_false_eq_true, and_self, and_true, true_and, storeA, List.take_zero, List.drop_succ_cons, List.drop_zero, List.nil_append, List.append_nil, List.take_succ_cons, List.cons_append, cut_cons, cut_zero, cut_skip, tAt, hHide, hAt, upsAt, List.contains_cons, List.contains_nil, Nat.reduceBEq, Bool.or_true, Bool.true_or, Bool.or_false, Bool.false_or, Bool.or_self, Bool.and_true, Bool.true_and, Bool.and_false, Bool.false_and, beq_self_eq_true (α := Nat), Option.some_beq_some, Option.none_beq_some, Option.some_beq_none, Bool.false_eq_true, List.all_nil, touch, touchB, Nat.sub_self, List.range'_zero, Nat.add_sub_cancel_left, List.range'_one, q1, shut_nil, x0, x0b, x1, x1b, x2, x2b, x3, x3b, x4, x4b, x5, x5b, x6, x6b, x7, x7b, x8, x8b, x9, x9b]
      · simp only [vop, val, argsT, upd_ap, Nat.reduceEqDiff, if_true, if_false, ite_true, ite_false, reduceIte, loadAt, loadA, AV.cells, AV.one, List.all_cons, List.all_nil, ofV, ofCell, plain, List.getElem?_cons_zero, List.getElem?_cons_succ, List.getElem?_toArray, Option.getD_some, Bool.not_true, Bool.not_false, Bool.false_eq_true, Bool.and_true, Bool.true_and, Bool.and_self, Nat.zero_add, Option.map_some, Option.bind_some, List.map_cons, List.map_nil, ev_add, ev_sub, ev_mul, ev_lss, ev_leq, ev_gtr, ev_geq, ev_eql, ev_neq, ev_seql, ev_sneq, ev_sleq, ev_slss, ev_not, ev_min, ev_max, asNat_nat, asNat_zero, asNat_one, asNat_two, asNat_three, vb_len, List.length_cons, List.length_nil, Nat.reduceAdd, Nat.reduceLeDiff, Nat.reduceMul, Int.reduceEq, Int.reduceLT, Int.reduceLE, Int.reduceNeg, Int.reduceAdd, Int.reduceSub, Nat.reduceLT, decide_true, decide_false, not_true_eq_false, not_false_eq_true, and_self, and_true, true_and, storeA, List.take_zero, List.drop_succ_cons, List.drop_zero, List.nil_append, List.append_nil, List.take_succ_cons, List.cons_append, cut_cons, cut_zero, cut_skip, tAt, hHide, hAt, upsAt, List.contains_cons, List.contains_nil, Nat.reduceBEq, Bool.or_true, Bool.true_or, Bool.or_false, Bool.false_or, Bool.or_self, Bool.and_true, Bool.true_and, Bool.and_false, Bool.false_and, beq_self_eq_true (α := Nat), Option.some_beq_some, Option.none_beq_some, Option.some_beq_none, Bool.false_eq_true, List.all_nil, touch, touchB, Nat.sub_self, List.range'_zero, Nat.add_sub_cancel_left, List.range'_one, shut_nil, objW, enc, u32s, strs, List.map_nil, List.length_nil, x0, x0b, x1, x1b, x2, x2b, x3, x3b, x4, x4b, x5, x5b, x6, x6b, x7, x7b, x8, x8b, x9, x9b]
    · simp only [objW, enc, u32s, strs, List.map_nil, List.length_nil] at q2 h82 h81 h83 hcut
      refine gF1 (wa t1 (wa t2 (wa t5 (wa t22 (wa t23 (wa t24 (wa q1 (wa q2 (wa hlt (wa hdE (wa hcut (wa hle (wa h81 (wa h83 (wa h82 (wa w4 (wa @shut_nil (wa x0 (wa x0b (wa x1 (wa x1b (wa x2 (wa x2b (wa x3 (wa x3b (wa x4 (wa x4b (wa x5 (wa x5b (wa x6 (wa x6b (wa x7 (wa x7b (wa x8 (wa x8b (wa x9 x9b)))))))))))))))))))))))))))))))))))) (wa h83 (wa h82 trivial)) ?_
      refine ⟨m, by omega, d + 1, enc (objW (l.take (d + 1)) (ks.take (d + 1))), by omega, by simp only; omega, ?_, ?_, ?_, ?_, ?_, ?_, ?_, ?_, .inr rfl⟩
      · simp only [vop, val, argsT, upd_ap, Nat.reduceEqDiff, if_true, if_false, ite_true, ite_false, reduceIte, loadAt, loadA, AV.cells, AV.one, List.all_cons, List.all_nil, ofV, ofCell, plain, List.getElem?_cons_zero, List.getElem?_cons_succ, List.getElem?_toArray, Option.getD_some, Bool.not_true, Bool.not_false, Bool.false_eq_true, Bool.and_true, Bool.true_and, Bool.and_self, Nat.zero_add, Option.map_some, Option.bind_some, List.map_cons, List.map_nil, ev_add, ev_sub, ev_mul, ev_lss, ev_leq, ev_gtr, ev_geq, ev_eql, ev_neq, ev_seql, ev_sneq, ev_sleq, ev_slss, ev_not, ev_min, ev_max, asNat_nat, asNat_zero, asNat_one, asNat_two, asNat_three, vb_len, List.length_cons, List.length_nil, Nat.reduceAdd, Nat.reduceLeDiff, Nat.reduceMul, Int.reduceEq, Int.reduceLT, Int.reduceLE, Int.reduceNeg, Int.reduceAdd, Int.reduceSub, Nat.reduceLT, decide_true, decide_false, not_true_eq_false, not_false_eq_true, and_self, and_true, true_and, storeA, List.take_zero, List.drop_succ_cons, List.drop_zero, List.nil_append, List.append_nil, List.take_succ_cons, List.cons_append, cut_cons, cut_zero, cut_skip, tAt, hHide, hAt, upsAt, List.contains_cons, List.contains_nil, Nat.reduceBEq, Bool.or_true, Bool.true_or, Bool.or_false, Bool.false_or, Bool.or_self, Bool.and_true, Bool.true_and, Bool.and_false, Bool.false_and, beq_self_eq_true (α := Nat), Option.some_beq_some, Option.none_beq_some, Option.some_beq_none, Bool.false_eq_true, List.all_nil, touch, touchB, Nat.sub_self, List.range'_zero, Nat.add_sub_cancel_left, List.range'_one, t1, x0, x0b, x1, x1b, x2, x2b, x3, x3b, x4, x4b, x5, x5b, x6, x6b, x7, x7b, x8, x8b, x9, x9b]
      · simp only [vop, val, argsT, upd_ap, Nat.reduceEqDiff, if_true, if_false, ite_true, ite_false, reduceIte, loadAt, loadA, AV.cells, AV.one, List.all_cons, List.all_nil, ofV, ofCell, plain, List.getElem?_cons_zero, List.getElem?_cons_succ, List.getElem?_toArray, Option.getD_some, Bool.not_true, Bool.not_false, Bool.false_eq_true, Bool.and_true, Bool.true_and, Bool.and_self, Nat.zero_add, Option.map_some, Option.bind_some, List.map_cons, List.map_nil, ev_add, ev_sub, ev_mul, ev_lss, ev_leq, ev_gtr, ev_geq, ev_eql, ev_neq, ev_seql, ev_sneq, ev_sleq, ev_slss, ev_not, ev_min, ev_max, asNat_nat, asNat_zero, asNat_one, asNat_two, asNat_three, vb_len, List.length_cons, List.length_nil, Nat.reduceAdd, Nat.reduceLeDiff, Nat.reduceMul, Int.reduceEq, Int.reduceLT, Int.reduceLE, Int.reduceNeg, Int.reduceAdd, Int.reduceSub, Nat.reduceLT, decide_true, decide_false, not_true_eq_false, not_false_eq_true, and_self, and_true, true_and, storeA, List.take_zero, List.drop_succ_cons, List.drop_zero, List.nil_append, List.append_nil, List.take_succ_cons, List.cons_append, cut_cons, cut_zero, cut_skip, tAt, hHide, hAt, upsAt, List.contains_cons, List.contains_nil, Nat.reduceBEq, Bool.or_true, Bool.true_or, Bool.or_false, Bool.false_or, Bool.or_self, Bool.and_true, Bool.true_and, Bool.and_false, Bool.false_and, beq_self_eq_true (α := Nat), Option.some_beq_some, Option.none_beq_some, Option.some_beq_none, Bool.false_eq_true, List.all_nil, touch, touchB, Nat.sub_self, List.range'_zero, Nat.add_sub_cancel_left, List.range'_one, t2, x0, x0b, x1, x1b, x2, x2b, x3, x3b, x4, x4b, x5, x5b, x6, x6b, x7, x7b, x8, x8b, x9, x9b]
      · simp only [vop, val, argsT, upd_ap, Nat.reduceEqDiff, if_true, if_false, ite_true, ite_false, reduceIte, loadAt, loadA, AV.cells, AV.one, List.all_cons, List.all_nil, ofV, ofCell, plain, List.getElem?_cons_zero, List.getElem?_cons_succ, List.getElem?_toArray, Option.getD_some, Bool.not_true, Bool.not_false, Bool.false_eq_true, Bool.and_true, Bool.true_and, Bool.and_self, Nat.zero_add, Option.map_some, Option.bind_some, List.map_cons, List.map_nil, ev_add, ev_sub, ev_mul, ev_lss, ev_leq, ev_gtr, ev_geq, ev_eql, ev_neq, ev_seql, ev_sneq, ev_sleq, ev_slss, ev_not, ev_min, ev_max, asNat_nat, asNat_zero, asNat_one, asNat_two, asNat_three, vb_len, List.length_cons, List.length_nil, Nat.reduceAdd, Nat.reduceLeDiff, Nat.reduceMul, Int.reduceEq, Int.reduceLT, Int.reduceLE, Int.reduceNeg, Int.reduceAdd, Int.reduceSub, Nat.reduceLT, decide_true, decide_false, not_true_eq_false, not_false_eq_true, and_self, and_true, true_and, storeA, List.take_zero, List.drop_succ_cons, List.drop_zero, List.nil_append, List.append_nil, List.take_succ_cons, List.cons_append, cut_cons, cut_zero, cut_skip, tAt, hHide, hAt, upsAt, List.contains_cons, List.contains_nil, Nat.reduceBEq, Bool.or_true, Bool.true_or, Bool.or_false, Bool.false_or, Bool.or_self, Bool.and_true, Bool.true_and, Bool.and_false, Bool.false_and, beq_self_eq_true (α := Nat), Option.some_beq_some, Option.none_beq_some, Option.some_beq_none, Bool.false_eq_true, List.all_nil, touch, touchB, Nat.sub_self, List.range'_zero, Nat.add_sub_cancel_left, List.range'_one, t5, x0, x0b, x1, x1b, x2, x2b, x3, x3b, x4, x4b, x5, x5b, x6, x6b, x7, x7b, x8, x8b, x9, x9b]
      · simp only [vop, val, argsT, upd_ap, Nat.reduceEqDiff, if_true, if_false, ite_true, ite_false, reduceIte, loadAt, loadA, AV.cells, AV.one, List.all_cons, List.all_nil, ofV, ofCell, plain, List.getElem?_cons_zero, List.getElem?_cons_succ, List.getElem?_toArray, Option.getD_some, Bool.not_true, Bool.not_false, Bool.false_eq_true, Bool.and_true, Bool.true_and, Bool.and_self, Nat.zero_add, Option.map_some, Option.bind_some, List.map_cons, List.map_nil, ev_add, ev_sub, ev_mul, ev_lss, ev_leq, ev_gtr, ev_geq, ev_eql, ev_neq, ev_seql, ev_sneq, ev_sleq, ev_slss, ev_not, ev_min, ev_max, asNat_nat, asNat_zero, asNat_one, asNat_two, asNat_three, vb_len, List.length_cons, List.length_nil, Nat.reduceAdd, Nat.reduceLeDiff, Nat.reduceMul, Int.reduceEq, Int.reduceLT, Int.reduceLE, Int.reduceNeg, Int.reduceAdd, Int.reduceSub, Nat.reduceLT, decide_true, decide_false, not_true_eq_false, not_false_eq_true, and_self, and_true, true_and, storeA, List.take_zero, List.drop_succ_cons, List.drop_zero, List.nil_append, List.append_nil, List.take_succ_cons, List.cons_append, cut_cons, cut_zero, cut_skip, tAt, hHide, hAt, upsAt, List.contains_cons, List.contains_nil, Nat.reduceBEq, Bool.or_true, Bool.true_or, Bool.or_false, Bool.false_or, Bool.or_self, Bool.and_true, Bool.true_and, Bool.and_false, Bool.false_and, beq_self_eq_true (α := Nat), Option.some_beq_some, Option.none_beq_some, Option.some_beq_none, Bool.false_eq_true, List.all_nil, touch, touchB, Nat.sub_self, List.range'_zero, Nat.add_sub_cancel_left, List.range'_one, t22, x0, x0b, x1, x1b, x2, x2b, x3, x3b, x4, x4b, x5, x5b, x6, x6b, x7, x7b, x8, x8b, x9, x9b]
      · simp only [vop, val, argsT, upd_ap, Nat.reduceEqDiff, if_true, if_false, ite_true, ite_false, reduceIte, loadAt, loadA, AV.cells, AV.one, List.all_cons, List.all_nil, ofV, ofCell, plain, List.getElem?_cons_zero, List.getElem?_cons_succ, List.getElem?_toArray, Option.getD_some, Bool.not_true, Bool.not_false, Bool.false_eq_true, Bool.and_true, Bool.true_and, Bool.and_self, Nat.zero_add, Option.map_some, Option.bind_some, List.map_cons, List.map_nil, ev_add, ev_sub, ev_mul, ev_lss, ev_leq, ev_gtr, ev_geq, ev_eql, ev_neq, ev_seql, ev_sneq, ev_sleq, ev_slss, ev_not, ev_min, ev_max, asNat_nat, asNat_zero, asNat_one, asNat_two, asNat_three, vb_len, List.length_cons, List.length_nil, Nat.reduceAdd, Nat.reduceLeDiff, Nat.reduceMul, Int.reduceEq, Int.reduceLT, Int.reduceLE, Int.reduceNeg, Int.reduceAdd, Int.reduceSub, Nat.reduceLT, decide_true, decide_false, not_true_eq_false, not_false_eq_true, and_self, and_true, true_and, storeA, List.take_zero, List.drop_succ_cons, List.drop_zero, List.nil_append, List.append_nil, List.take_succ_cons, List.cons_append, cut_cons, cut_zero, cut_skip, tAt, hHide, hAt, upsAt, List.contains_cons, List.contains_nil, Nat.reduceBEq, Bool.or_true, Bool.true_or, Bool.or_false, Bool.false_or, Bool.or_self, Bool.and_true, Bool.true_and, Bool.and_false, Bool.false_and, beq_self_eq_true (α := Nat), Option.some_beq_some, Option.none_beq_some, Option.some_beq_none, Bool.false_eq_true, List.all_nil, touch, touchB, Nat.sub_self, List.range'_zero, Nat.add_sub_cancel_left, List.range'_one, t23, x0, x0b, x1, x1b, x2, x2b, x3, x3b, x4, x4b, x5, x5b, x6, x6b, x7, x7b, x8, x8b, x9, x9b]
      · simp [upd_ap]
      · simp only [vop, val, argsT, upd_ap, Nat.reduceEqDiff, if_true, if_false, ite_true, ite_false, reduceIte, loadAt, loadA, AV.cells, AV.one, List.all_cons, List.all_nil, ofV, ofCell, plain, List.getElem?_cons_zero, List.getElem?_cons_succ, List.getElem?_toArray, Option.getD_some, Bool.not_true, Bool.not_false, Bool.false_eq_true, Bool.and_true, Bool.true_and, Bool.and_self, Nat.zero_add, Option.map_some, Option.bind_some, List.map_cons, List.map_nil, ev_add, ev_sub, ev_mul, ev_lss, ev_leq, ev_gtr, ev_geq, ev_eql, ev_neq, ev_seql, ev_sneq, ev_sleq, ev_slss, ev_not, ev_min, ev_max, asNat_nat, asNat_zero, asNat_one, asNat_two, asNat_three, vb_len, List.length_cons, List.length_nil, Nat.reduceAdd, Nat.reduceLeDiff, Nat.reduceMul, Int.reduceEq, Int.reduceLT, Int.reduceLE, Int.reduceNeg, Int.reduceAdd, Int.reduceSub, Nat.reduceLT, decide_true, decide_false, not_true_eq_false, not_false_eq_true, and_self, and_true, true_and, storeA, List.take_zero, List.drop_succ_cons, List.drop_zero, List.nil_append, List.append_nil, List.take_succ_cons, List.cons_append, cut_cons, cut_zero, cut_skip, tAt, hHide, hAt, upsAt, List.contains_cons, List.contains_nil, Nat.reduceBEq, Bool.or_true, Bool.true_or, Bool.or_false, Bool.false_or, Bool.or_self, Bool.and_true, Bool.true_and, Bool.and_false, Bool.false_and, beq_self_eq_true (α := Nat), Option.some_beq_some, Option.none_beq_some, Option.some_beq_none, Bool.false_eq_true, List.all_nil, touch, touchB, Nat.sub_self, List.range'_zero, Nat.add_sub_cancel_left, List.range'_one, q1, shut_nil, x0, x0b, x1, x1b, x2, x2b, x3, x3b, x4, x4b, x5, x5b, x6, x6b, x7, x7b, x8, x8b, x9, x9b]
      · simp only [vop, val, argsT, upd_ap, Nat.reduceEqDiff, if_true, if_false, ite_true, ite_false, reduceIte, loadAt, loadA, AV.cells, AV.one, List.all_cons, List.all_nil, ofV, ofCell, plain, List.getElem?_cons_zero, List.getElem?_cons_succ, List.getElem?_toArray, Option.getD_some, Bool.not_true, Bool.not_false, Bool.false_eq_true, Bool.and_true, Bool.true_and, Bool.and_self, Nat.zero_add, Option.map_some, Option.bind_some, List.map_cons, List.map_nil, ev_add, ev_sub, ev_mul, ev_lss, ev_leq, ev_gtr, ev_geq, ev_eql, ev_neq, ev_seql, ev_sneq, ev_sleq, ev_slss, ev_not, ev_min, ev_max, asNat_nat, asNat_zero, asNat_one, asNat_two, asNat_three, vb_len, List.length_cons, List.length_nil, Nat.reduceAdd, Nat.reduceLeDiff, Nat.reduceMul, Int.reduceEq, Int.reduceLT, Int.reduceLE, Int.reduceNeg, Int.reduceAdd, Int.reduceSub, Nat.reduceLT, decide_true, decide_false, not_true_eq_false, not_false_eq_true, and_self, and_true, true_and, storeA, List.take_zero, List.drop_succ_cons, List.drop_zero, List.nil_append, List.append_nil, List.take_succ_cons, List.cons_append, cut_cons, cut_zero, cut_skip, tAt, hHide, hAt, upsAt, List.contains_cons, List.contains_nil, Nat.reduceBEq, Bool.or_true, Bool.true_or, Bool.or_false, Bool.false_or, Bool.or_self, Bool.and_true, Bool.true_and, Bool.and_false, Bool.false_and, beq_self_eq_true (α := Nat), Option.some_beq_some, Option.none_beq_some, Option.some_beq_none, Bool.false_eq_true, List.all_nil, touch, touchB, Nat.sub_self, List.range'_zero, Nat.add_sub_cancel_left, List.range'_one, shut_nil, objW, enc, u32s, strs, List.map_nil, List.length_nil, x0, x0b, x1, x1b, x2, x2b, x3, x3b, x4, x4b, x5, x5b, x6, x6b, x7, x7b, x8, x8b, x9, x9b]
end Go.Proofs.Bv
namespace Go.Proofs.Bv
open Go
theorem ok8 : codeOk 65 (Tryz.f8.body.getD .skip) = true := by kernel_rfl
set_option maxHeartbeats 4000000 in
set_option maxRecDepth 100000 in
theorem pc35z (G : Nat → Option (List AV)) : Pc (C4 G) 35 [.agg (enc zeroV)] (encE (zeroV, 41)) := by
  have hz : Fit zeroV := ⟨⟨by omega, by omega, by simp, by simp, by simp [ByteArray.size], by simp, by simp, by simp⟩, trivial⟩
  have h1 := orcL_of (pc44 G zeroV hz)
  rw [show chk zeroV = 0 from chk_none (.inl rfl)] at h1
  simp only [zeroV, encE, enc, encs, u32s, strs, List.map_nil, List.length_nil] at h1 ⊢
  refine Pc_of (Gf_enter (C := C4 G) Tryz.func35 rfl ok35 (Nat.le_of_ble_eq_true rfl) ?_)
  simp only [Tryz.f35, Option.getD_some]
  refine wC1 h1 trivial ?_
  simp only [one1, frz_t, frz_a, mapF, frz_s, frz_l, frz_n, Option.map_some, List.append_nil]
  rfl
theorem back (G : Nat → Option (List AV)) (v : JV) (hfit : Fit v) : ∃ r : JV × Int, Pc (C4 G) 35 [.agg (enc (entOf v).1)] (encE r) ∧ (0 ≤ r.2 ∧ r.2 ≤ 100) ∧ ((entOf v).2 = 0 → r = (v, 0)) ∧ (0 ≤ (entOf v).2 ∧ (entOf v).2 ≤ 100) := by
  have hz := pc35z G
  have hr := chk_rng v
  by_cases hc : chk v = 0
  · by_cases hk : v.kind = 6
    · obtain ⟨k, ng, cf, ex, t, l, ks⟩ := v
      simp only [JV.kind] at hk
      subst hk
      have ho := chk_ownE hc
      obtain ⟨f1, f2, f3, f4, f5, f6⟩ := shape_of ho
      obtain ⟨_, s2, _⟩ := own_saidB ho
      obtain ⟨rfl, rfl, rfl⟩ := f1 (by omega)
      obtain rfl := f2 (by omega)
      have e : entOf (.mk 6 false [] 0 ⟨#[]⟩ l ks) = whole (.mk 5 false [] 0 ⟨#[]⟩ ((ks.zip l).map entV) []) 0 := by unfold entOf; rw [if_neg (by simp [hc])]; exact if_pos rfl
      rw [e]
      have hr2 := chk_rng (.mk 5 false [] 0 ⟨#[]⟩ ((ks.zip l).map entV) [])
      unfold whole or2
      rw [if_pos rfl]
      by_cases h0 : chk (.mk 5 false [] 0 ⟨#[]⟩ ((ks.zip l).map entV) []) = 0
      · rw [if_pos h0]
        have h35 := pc35 G l ks (f5 rfl) s2 hfit.1.nkey hfit.2 (rises_pw f6) h0
        have ew : whole (objW l ks) 0 = (objW l ks, 0) := by
          unfold whole or2
          rw [if_pos rfl]
          exact if_pos hc
        rw [ew] at h35
        exact ⟨(objW l ks, 0), h35, by simp, fun _ => rfl, by simp⟩
      · rw [if_neg h0]
        exact ⟨(zeroV, 41), hz, by simp, fun h => absurd h h0, hr2⟩
    · have e : entOf v = (zeroV, 41) := by unfold entOf; rw [if_neg (by simp [hc])]; exact if_neg hk
      rw [e]
      exact ⟨(zeroV, 41), hz, by simp, fun h => by simp at h, by simp⟩
  · have e : entOf v = (zeroV, chk v) := by unfold entOf; rw [if_pos hc]
    rw [e]
    exact ⟨(zeroV, 41), hz, by simp, fun h => absurd h hc, hr⟩
theorem rev_rng (v : JV) : 0 ≤ (revOf v).2 ∧ (revOf v).2 ≤ 100 := by
  have hr := chk_rng v
  unfold revOf
  repeat' split
  all_goals simp
  exact hr
theorem fits_of : (l : List JV) → (∀ x ∈ l, Fit x) → Fits l
  | [], _ => trivial
  | x :: r, h => ⟨h x (by simp), fits_of r fun y hy => h y (List.mem_cons_of_mem _ hy)⟩
theorem zero_fit : Fit zeroV := ⟨⟨by omega, by omega, by simp, by simp, by simp [ByteArray.size], by simp, by simp, by simp⟩, trivial⟩
theorem rev_fit (v : JV) (hfit : Fit v) : Fit (revOf v).1 := by
  by_cases hc : chk v = 0
  · obtain ⟨k, ng, cf, ex, t, l, ks⟩ := v
    by_cases hk : k = 0 ∨ k = 5
    · have e : revOf (.mk k ng cf ex t l ks) = (.mk 5 false [] 0 ⟨#[]⟩ l.reverse [], 0) := by unfold revOf; rw [if_neg (by simp [hc])]; exact if_pos hk
      rw [e]
      refine ⟨⟨by omega, by omega, by simp, by simp, by simp [ByteArray.size], ?_, by simp, by simp⟩, fits_of _ fun x hx => Fits_mem hfit.2 x (by simpa using hx)⟩
      rw [List.length_reverse]
      exact hfit.1.nlist
    · by_cases hk4 : k = 4
      · subst hk4
        have e : revOf (.mk 4 ng cf ex t l ks) = (textV (revT t), 0) := by unfold revOf; rw [if_neg (by simp [hc])]; exact (if_neg hk).trans (if_pos rfl)
        rw [e]
        obtain ⟨_, _, _, _, s5, _⟩ := own_saidB (chk_ownE hc)
        have ht : (chkFrom t 0).2 = 0 := by
          unfold letters at s5
          split at s5
          · assumption
          · rename_i h0
            exact absurd s5 h0
        obtain ⟨L, g1, g2, g3, g4, g5, g6, g7⟩ := rev_text ht
        have r1 : revT t = textB L.reverse := by unfold revT; rw [g2, ofN_nat]
        refine ⟨⟨by omega, by omega, by simp, by simp, ?_, by simp, by simp, by simp⟩, trivial⟩
        rw [r1, g7]
        exact hfit.1.ntext
      · have e : revOf (.mk k ng cf ex t l ks) = (zeroV, 41) := by unfold revOf; rw [if_neg (by simp [hc])]; exact (if_neg hk).trans (if_neg hk4)
        rw [e]
        exact zero_fit
  · have e : revOf v = (zeroV, chk v) := by unfold revOf; rw [if_pos hc]
    rw [e]
    exact zero_fit
set_option maxHeartbeats 4000000 in
set_option maxRecDepth 100000 in
theorem pc8 (G : Nat → Option (List AV)) (v : JV) (hfit : Fit v) : Pc (C4 G) 8 [.agg (enc v)] (.sc (.bool true)) := by
  have h11 := orcL_of (pc11 G)
  have h21 := orcL_of (pc21 G v hfit)
  obtain ⟨r, h35, hr1, hr2, hr3⟩ := back G v hfit
  have h22 := orcR_of (pc22 G v hfit)
  have h22b := orcR_of (pc22 G (revOf v).1 (rev_fit v hfit))
  have hrr := rev_rev v
  have n1 := rev_rng v
  have n2 := rev_rng (revOf v).1
  have hS := orcL_of (pc14 G v hfit)
  generalize entOf v = E at *
  generalize revOf (revOf v).1 = D at *
  generalize revOf v = C at *
  obtain ⟨e1, e2⟩ := E
  obtain ⟨c1, c2⟩ := C
  obtain ⟨d1, d2⟩ := D
  obtain ⟨b1, b2⟩ := r
  simp only at hr1 hr2 hr3 hrr n1 n2 h35 h22b
  have m1 := orcL_of (pc13 G e2 (by omega))
  have m2 := orcL_of (pc13 G b2 (by omega))
  have m3 := orcL_of (pc13 G c2 (by omega))
  have m4 := orcL_of (pc13 G d2 (by omega))
  by_cases he : e2 = 0
  · obtain ⟨hb1, hb2⟩ := Prod.mk.inj (hr2 he)
    subst hb1; subst hb2; subst he
    by_cases hc : c2 = 0
    · obtain ⟨hd2, hd1⟩ := hrr hc
      subst hc; subst hd2
      by_cases hk : b1.kind = 0
      · obtain ⟨k1, g1, f1, x1, t1, l1, s1⟩ := b1
        obtain ⟨k2, g2, f2, x2, t2, l2, s2⟩ := e1
        obtain ⟨k3, g3, f3, x3, t3, l3, s3⟩ := c1
        obtain ⟨k4, g4, f4, x4, t4, l4, s4⟩ := d1
        simp only [JV.kind] at hk
        subst hk
        simp only [encE, enc] at h21 h35 h22 h22b hS ⊢
        refine Pc_of (Gf_enter (C := C4 G) Tryz.func8 rfl ok8 (Nat.le_of_ble_eq_true rfl) ?_)
        simp only [Tryz.f8, Option.getD_some]
        refine wC1 (wa h11 (wa h21 (wa h22 (wa h22b (wa hS (wa m1 (wa m2 (wa m3 m4)))))))) (wa h35 trivial) ?_
        simp only [one1, frz_s, Option.map_some]
      · have hd1 := hd1.resolve_left hk
        subst hd1
        obtain ⟨k1, g1, f1, x1, t1, l1, s1⟩ := d1
        obtain ⟨k2, g2, f2, x2, t2, l2, s2⟩ := e1
        obtain ⟨k3, g3, f3, x3, t3, l3, s3⟩ := c1
        simp only [JV.kind] at hk
        simp only [encE, enc] at h21 h35 h22 h22b hS ⊢
        refine Pc_of (Gf_enter (C := C4 G) Tryz.func8 rfl ok8 (Nat.le_of_ble_eq_true rfl) ?_)
        simp only [Tryz.f8, Option.getD_some]
        refine wC1 (wa h11 (wa h21 (wa h22 (wa h22b (wa hS (wa m1 (wa m2 (wa m3 (wa m4 hk))))))))) (wa h35 trivial) ?_
        simp only [one1, frz_s, Option.map_some]
    · obtain ⟨k1, g1, f1, x1, t1, l1, s1⟩ := b1
      obtain ⟨k2, g2, f2, x2, t2, l2, s2⟩ := e1
      obtain ⟨k3, g3, f3, x3, t3, l3, s3⟩ := c1
      obtain ⟨k4, g4, f4, x4, t4, l4, s4⟩ := d1
      simp only [encE, enc] at h21 h35 h22 h22b hS ⊢
      refine Pc_of (Gf_enter (C := C4 G) Tryz.func8 rfl ok8 (Nat.le_of_ble_eq_true rfl) ?_)
      simp only [Tryz.f8, Option.getD_some]
      refine wC1 (wa h11 (wa h21 (wa h22 (wa h22b (wa hS (wa m1 (wa m2 (wa m3 (wa m4 hc))))))))) (wa h35 trivial) ?_
      simp only [one1, frz_s, Option.map_some]
  · by_cases hc : c2 = 0
    · obtain ⟨hd2, hd1⟩ := hrr hc
      subst hc; subst hd2
      by_cases hk : v.kind = 0
      · obtain ⟨k1, g1, f1, x1, t1, l1, s1⟩ := v
        obtain ⟨k2, g2, f2, x2, t2, l2, s2⟩ := e1
        obtain ⟨k3, g3, f3, x3, t3, l3, s3⟩ := c1
        obtain ⟨k4, g4, f4, x4, t4, l4, s4⟩ := d1
        obtain ⟨k5, g5, f5, x5, t5, l5, s5⟩ := b1
        simp only [JV.kind] at hk
        subst hk
        simp only [encE, enc] at h21 h35 h22 h22b hS ⊢
        refine Pc_of (Gf_enter (C := C4 G) Tryz.func8 rfl ok8 (Nat.le_of_ble_eq_true rfl) ?_)
        simp only [Tryz.f8, Option.getD_some]
        refine wC1 (wa h11 (wa h21 (wa h22 (wa h22b (wa hS (wa m1 (wa m2 (wa m3 (wa m4 he))))))))) (wa h35 trivial) ?_
        simp only [one1, frz_s, Option.map_some]
      · have hd1 := hd1.resolve_left hk
        subst hd1
        obtain ⟨k1, g1, f1, x1, t1, l1, s1⟩ := d1
        obtain ⟨k2, g2, f2, x2, t2, l2, s2⟩ := e1
        obtain ⟨k3, g3, f3, x3, t3, l3, s3⟩ := c1
        obtain ⟨k5, g5, f5, x5, t5, l5, s5⟩ := b1
        simp only [JV.kind] at hk
        simp only [encE, enc] at h21 h35 h22 h22b hS ⊢
        refine Pc_of (Gf_enter (C := C4 G) Tryz.func8 rfl ok8 (Nat.le_of_ble_eq_true rfl) ?_)
        simp only [Tryz.f8, Option.getD_some]
        refine wC1 (wa h11 (wa h21 (wa h22 (wa h22b (wa hS (wa m1 (wa m2 (wa m3 (wa m4 (wa hk he)))))))))) (wa h35 trivial) ?_
        simp only [one1, frz_s, Option.map_some]
    · obtain ⟨k1, g1, f1, x1, t1, l1, s1⟩ := v
      obtain ⟨k2, g2, f2, x2, t2, l2, s2⟩ := e1
      obtain ⟨k3, g3, f3, x3, t3, l3, s3⟩ := c1
      obtain ⟨k4, g4, f4, x4, t4, l4, s4⟩ := d1
      obtain ⟨k5, g5, f5, x5, t5, l5, s5⟩ := b1
      simp only [encE, enc] at h21 h35 h22 h22b hS ⊢
      refine Pc_of (Gf_enter (C := C4 G) Tryz.func8 rfl ok8 (Nat.le_of_ble_eq_true rfl) ?_)
      simp only [Tryz.f8, Option.getD_some]
      refine wC1 (wa h11 (wa h21 (wa h22 (wa h22b (wa hS (wa m1 (wa m2 (wa m3 (wa m4 (wa hc he)))))))))) (wa h35 trivial) ?_
      simp only [one1, frz_s, Option.map_some]
end Go.Proofs.Bv
