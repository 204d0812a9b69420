/-
  A part of the proof of KindsContainsUptoCardSaid: BkCheck, BkClone, BkInt, BkAbs, BkGet, BkPow, BkRng, BkSplit, BkFloor, BkNear, BkNear2, BkHas, BkKeys, BkKeys2, BkKeys3, BkFacts, BkFacts2, BkSub, BkPlus, BkDCmp, BkOrd, BkCont.
  Conditions: those that each part names.
-/
import Derived.Test.YtegdndonafbcdaaGreatDoorKc13
set_option linter.unusedSimpArgs false
set_option linter.unusedVariables false
namespace Go.Proofs.Bv
open Go
theorem ok44 : codeOk 21 (Tryz.f44.body.getD .skip) = true := by kernel_rfl
theorem st_abs' {C : Cfg} {nt n : Nat} {rd : Bool} {T : Nat → AV} {h : Heap} {c : Code} {Q : Ex → St → Prop} (P : (Nat → AV) → Prop) (hP : P T) (hw : ∀ T, P T → Gc C nt rd c ⟨T, h, n⟩ Q) : Gc C nt rd c ⟨T, h, n⟩ Q := hw T hP
theorem gf151L (G : Nat → Option (List AV)) (v : JV) (hfit : Fit v) (b c : Nat) (L : LoopA) (J : List JV → Heap → Nat → Prop) (Q : AV → Heap → Nat → Prop) (hbc : b < c) (hst : Stays J c)
    (hround : ∀ d x h n (K : AV → Heap → Nat → Prop), Fit x → (∃ r, pre v = d ++ x :: r) → J d h n → h b = some (.loop L) → c ≤ n → (∀ h' n', n ≤ n' → (∀ m, c ≤ m → m < n → h' m = h m) → J (d ++ [x]) h' n' → h' b = some (.loop L) → K (.sc (.bool true)) h' n') →
      (∀ h' n', n ≤ n' → Q (.tup []) h' n' → K (.sc (.bool false)) h' n') → Wk (Cf G) (.fn (.yield b) []) [.agg (enc x)] h n K)
    (hend : ∀ h n, J (pre v) h n → h b = some (.loop L) → Q (.tup []) h n) {h : Heap} {n : Nat} (hcn : c ≤ n) (hJ : J [] h n) (hL : h b = some (.loop L)) : Gf (Cf G) 151 [.fn (.yield b) [], .pptr (enc v) 0] h n Q :=
  gf151 (I := fun d h n => J d h n ∧ h b = some (.loop L)) (S := fun h n => Q (.tup []) h n) (c := c) (fun d h n h' n' hI hn hfr => ⟨hst d h n h' n' hI.1 hn hfr, by rw [hfr b hbc]; exact hI.2⟩)
    v (fun d x h n K hfx hP hI hcn hT hF => hround d x h n K hfx hP hI.1 hI.2 hcn (fun h' n' hn hfr hj hl => hT h' n' hn hfr ⟨hj, hl⟩) hF) hfit h n hcn ⟨hJ, hL⟩ Q (fun h' n' _ hI => hend h' n' hI.1 hI.2) (fun h' n' _ hs => hs)
def firstErr : List JV → Int
  | [] => 0
  | x :: r => if own x = 0 then firstErr r else own x
theorem firstErr_app (d r : List JV) (h : firstErr d = 0) : firstErr (d ++ r) = firstErr r := by
  induction d with
  | nil => rfl
  | cons x d ih =>
    simp only [firstErr] at h
    split at h
    · rename_i h0
      simp only [List.cons_append, firstErr, if_pos h0]
      exact ih h
    · rename_i h0
      exact absurd h h0
def chk (v : JV) : Int := if 64 < deep v 1000 then 42 else if 16384 < size v then 3 else firstErr (pre v)
set_option maxHeartbeats 4000000 in
set_option maxRecDepth 100000 in
theorem pc44 (G : Nat → Option (List AV)) (v : JV) (hfit : Fit v) : Pc (Cf G) 44 [.agg (enc v)] (.sc (.int .i64 (chk v))) := by
  have h1 := pc93 G v hfit
  have h2 := pc94 G v hfit
  have h3 := pc95 G v
  have hv : ∃ k ng cf ex t l ks, v = .mk k ng cf ex t l ks := by obtain ⟨k, ng, cf, ex, t, l, ks⟩ := v; exact ⟨_, _, _, _, _, _, _, rfl⟩
  obtain ⟨k, ng, cf, ex, t, l, ks, hve⟩ := hv
  have he : enc v = enc (.mk k ng cf ex t l ks) := by rw [hve]
  simp only [enc] at he
  simp only [chk]
  generalize deep v 1000 = d1 at *
  generalize size v = s1 at *
  refine Pc_of (Gf_enter (C := Cf G) Tryz.func44 rfl ok44 (Nat.le_of_ble_eq_true rfl) ?_)
  simp only [Tryz.f44, Option.getD_some]
  simp only [he] at h1 h2 h3 ⊢
  (focus refine wC3 trivial (wa h1 (wa h2 (wa h3 trivial))) ?_ ?_ ?_; intro hb; rotate_left; intro hb hb; rotate_left; intro hb hb; rotate_left)
  · simp only [one1, frz_s, Option.map_some]
    rw [if_pos hb]
  · simp only [one1, frz_s, Option.map_some]
    rw [if_neg (by assumption), if_pos hb]
  · rw [if_neg (by assumption), if_neg (by assumption)]
    refine st_abs' (fun T => T 2 = .ptr 1 0 ∧ T 14 = .fn (.func 151) [.pptr (enc v) 0]) ⟨rfl, by rw [he]; rfl⟩ ?_
    rintro T ⟨t2, t14⟩
    refine st_range' (by simp only [vop, val, argsT, upd_ap, Nat.reduceEqDiff, if_true, if_false, ite_true, ite_false, reduceIte, loadAt, loadA, AV.cells, AV.one, List.all_cons, List.all_nil, ofV, ofCell, plain, List.getElem?_cons_zero, List.getElem?_cons_succ, List.getElem?_toArray, Option.getD_some, Bool.not_true, Bool.not_false, Bool.false_eq_true, Bool.and_true, Bool.true_and, Bool.and_self, Nat.zero_add, Option.map_some, Option.bind_some, List.map_cons, List.map_nil, ev_add, ev_sub, ev_mul, ev_lss, ev_leq, ev_gtr, ev_geq, ev_eql, ev_neq, ev_seql, ev_sneq, ev_sleq, ev_slss, ev_not, ev_min, ev_max, asNat_nat, asNat_zero, asNat_one, asNat_two, asNat_three, vb_len, List.length_cons, List.length_nil, Nat.reduceAdd, Nat.reduceLeDiff, Nat.reduceMul, Int.reduceEq, Int.reduceLT, Int.reduceLE, Int.reduceNeg, Int.reduceAdd, Int.reduceSub, Nat.reduceLT, decide_true, decide_false, not_true_eq_false, not_false_eq_true, and_self, and_true, true_and, storeA, List.take_zero, List.drop_succ_cons, List.drop_zero, List.nil_append, List.append_nil, List.take_succ_cons, List.cons_append, cut_cons, cut_zero, cut_skip, tAt, hHide, hAt, upsAt, List.contains_cons, List.contains_nil, Nat.reduceBEq, Bool.or_true, Bool.true_or, Bool.or_false, Bool.false_or, Bool.or_self, Bool.and_true, Bool.true_and, Bool.and_false, Bool.false_and, beq_self_eq_true (α := Nat), Option.some_beq_some, Option.none_beq_some, Option.some_beq_none, Bool.false_eq_true, List.all_nil, touch, touchB, Nat.sub_self, List.range'_zero, Nat.add_sub_cancel_left, List.range'_one, t14]; with_reducible rfl) ?_
    refine gf151L G v hfit _ 3 _ (fun d h n => 3 ≤ n ∧ firstErr d = 0 ∧ h 1 = some (.cells [.sc (.int .i64 0)] 0 false)) _ (by decide) ?_ ?_ ?_ (Nat.le_refl _) ⟨Nat.le_refl _, rfl, rfl⟩ rfl
    · rintro d h n h' n' ⟨j0, j1, j2⟩ hn hfr
      exact ⟨by omega, j1, by rw [hfr 1 (by omega)]; exact j2⟩
    · rintro d x h n K hfx ⟨rP, hP⟩ ⟨j0, j1, j2⟩ hLp hcn hT hF
      have ho := pc96 G x hfx
      have hn2 : ¬ n = 2 := by omega
      have hn1 : ¬ n = 1 := by omega
      have h2n : ¬ 2 = n := by omega
      have h1n : ¬ 1 = n := by omega
      have hxe : ∃ k ng cf ex t l ks, enc x = [.sc (.int .i64 k), .sc (.bool ng), .psl (u32s cf) cf.length, .sc (.int .i64 ex), .sc (.string t), .psl (encs l) l.length, .psl (strs ks) ks.length] := by obtain ⟨k, ng, cf, ex, t, l, ks⟩ := x; exact ⟨_, _, _, _, _, _, _, rfl⟩
      obtain ⟨k', ng', cf', ex', t', l', ks', hxe⟩ := hxe
      rw [hxe] at ho ⊢
      refine Wk_yield hLp (by kernel_rfl) rfl ?_
      refine wB1 hLp ?_
      refine roundMid_of (by simp only [vop, val, argsT, upd_ap, Nat.reduceEqDiff, if_true, if_false, ite_true, ite_false, reduceIte, loadAt, loadA, AV.cells, AV.one, List.all_cons, List.all_nil, ofV, ofCell, plain, List.getElem?_cons_zero, List.getElem?_cons_succ, List.getElem?_toArray, Option.getD_some, Bool.not_true, Bool.not_false, Bool.false_eq_true, Bool.and_true, Bool.true_and, Bool.and_self, Nat.zero_add, Option.map_some, Option.bind_some, List.map_cons, List.map_nil, ev_add, ev_sub, ev_mul, ev_lss, ev_leq, ev_gtr, ev_geq, ev_eql, ev_neq, ev_seql, ev_sneq, ev_sleq, ev_slss, ev_not, ev_min, ev_max, asNat_nat, asNat_zero, asNat_one, asNat_two, asNat_three, vb_len, List.length_cons, List.length_nil, Nat.reduceAdd, Nat.reduceLeDiff, Nat.reduceMul, Int.reduceEq, Int.reduceLT, Int.reduceLE, Int.reduceNeg, Int.reduceAdd, Int.reduceSub, Nat.reduceLT, decide_true, decide_false, not_true_eq_false, not_false_eq_true, and_self, and_true, true_and, storeA, List.take_zero, List.drop_succ_cons, List.drop_zero, List.nil_append, List.append_nil, List.take_succ_cons, List.cons_append, cut_cons, cut_zero, cut_skip, tAt, hHide, hAt, upsAt, List.contains_cons, List.contains_nil, Nat.reduceBEq, Bool.or_true, Bool.true_or, Bool.or_false, Bool.false_or, Bool.or_self, Bool.and_true, Bool.true_and, Bool.and_false, Bool.false_and, beq_self_eq_true (α := Nat), Option.some_beq_some, Option.none_beq_some, Option.some_beq_none, Bool.false_eq_true, List.all_nil, touch, touchB, Nat.sub_self, List.range'_zero, Nat.add_sub_cancel_left, List.range'_one, hLp, h2n]; with_reducible rfl) rfl ?_
      (focus refine wC2 (wa t2 (wa hLp (wa j2 (wa @hn2 (wa @hn1 (wa h2n h1n)))))) (wa ho trivial) ?_ ?_; intro hb; rotate_left; intro hb; rotate_left)
      · refine roundEnd_ret (by simp only [vop, val, argsT, upd_ap, Nat.reduceEqDiff, if_true, if_false, ite_true, ite_false, reduceIte, loadAt, loadA, AV.cells, AV.one, List.all_cons, List.all_nil, ofV, ofCell, plain, List.getElem?_cons_zero, List.getElem?_cons_succ, List.getElem?_toArray, Option.getD_some, Bool.not_true, Bool.not_false, Bool.false_eq_true, Bool.and_true, Bool.true_and, Bool.and_self, Nat.zero_add, Option.map_some, Option.bind_some, List.map_cons, List.map_nil, ev_add, ev_sub, ev_mul, ev_lss, ev_leq, ev_gtr, ev_geq, ev_eql, ev_neq, ev_seql, ev_sneq, ev_sleq, ev_slss, ev_not, ev_min, ev_max, asNat_nat, asNat_zero, asNat_one, asNat_two, asNat_three, vb_len, List.length_cons, List.length_nil, Nat.reduceAdd, Nat.reduceLeDiff, Nat.reduceMul, Int.reduceEq, Int.reduceLT, Int.reduceLE, Int.reduceNeg, Int.reduceAdd, Int.reduceSub, Nat.reduceLT, decide_true, decide_false, not_true_eq_false, not_false_eq_true, and_self, and_true, true_and, storeA, List.take_zero, List.drop_succ_cons, List.drop_zero, List.nil_append, List.append_nil, List.take_succ_cons, List.cons_append, cut_cons, cut_zero, cut_skip, tAt, hHide, hAt, upsAt, List.contains_cons, List.contains_nil, Nat.reduceBEq, Bool.or_true, Bool.true_or, Bool.or_false, Bool.false_or, Bool.or_self, Bool.and_true, Bool.true_and, Bool.and_false, Bool.false_and, beq_self_eq_true (α := Nat), Option.some_beq_some, Option.none_beq_some, Option.some_beq_none, Bool.false_eq_true, List.all_nil, touch, touchB, Nat.sub_self, List.range'_zero, Nat.add_sub_cancel_left, List.range'_one]; with_reducible rfl) ?_
        refine hF _ _ (Nat.le_succ _) (rangeEnd_ret (by show 2 + 1 ≤ n + 1; omega) (by simp only [vop, val, argsT, upd_ap, Nat.reduceEqDiff, if_true, if_false, ite_true, ite_false, reduceIte, loadAt, loadA, AV.cells, AV.one, List.all_cons, List.all_nil, ofV, ofCell, plain, List.getElem?_cons_zero, List.getElem?_cons_succ, List.getElem?_toArray, Option.getD_some, Bool.not_true, Bool.not_false, Bool.false_eq_true, Bool.and_true, Bool.true_and, Bool.and_self, Nat.zero_add, Option.map_some, Option.bind_some, List.map_cons, List.map_nil, ev_add, ev_sub, ev_mul, ev_lss, ev_leq, ev_gtr, ev_geq, ev_eql, ev_neq, ev_seql, ev_sneq, ev_sleq, ev_slss, ev_not, ev_min, ev_max, asNat_nat, asNat_zero, asNat_one, asNat_two, asNat_three, vb_len, List.length_cons, List.length_nil, Nat.reduceAdd, Nat.reduceLeDiff, Nat.reduceMul, Int.reduceEq, Int.reduceLT, Int.reduceLE, Int.reduceNeg, Int.reduceAdd, Int.reduceSub, Nat.reduceLT, decide_true, decide_false, not_true_eq_false, not_false_eq_true, and_self, and_true, true_and, storeA, List.take_zero, List.drop_succ_cons, List.drop_zero, List.nil_append, List.append_nil, List.take_succ_cons, List.cons_append, cut_cons, cut_zero, cut_skip, tAt, hHide, hAt, upsAt, List.contains_cons, List.contains_nil, Nat.reduceBEq, Bool.or_true, Bool.true_or, Bool.or_false, Bool.false_or, Bool.or_self, Bool.and_true, Bool.true_and, Bool.and_false, Bool.false_and, beq_self_eq_true (α := Nat), Option.some_beq_some, Option.none_beq_some, Option.some_beq_none, Bool.false_eq_true, List.all_nil, touch, touchB, Nat.sub_self, List.range'_zero, Nat.add_sub_cancel_left, List.range'_one]; with_reducible rfl) rfl ?_)
        refine wB1 (wa t2 (wa hLp (wa j2 (wa @hn2 (wa @hn1 (wa h2n h1n)))))) ?_
        simp only [one1, frz_s, Option.map_some]
        have hfe : firstErr (pre v) = own x := by
          rw [hP, firstErr_app d _ j1]
          simp only [firstErr]
          rw [if_neg (by simpa using hb)]
        rw [hfe]
      · refine roundEnd_norm (by simp only [vop, val, argsT, upd_ap, Nat.reduceEqDiff, if_true, if_false, ite_true, ite_false, reduceIte, loadAt, loadA, AV.cells, AV.one, List.all_cons, List.all_nil, ofV, ofCell, plain, List.getElem?_cons_zero, List.getElem?_cons_succ, List.getElem?_toArray, Option.getD_some, Bool.not_true, Bool.not_false, Bool.false_eq_true, Bool.and_true, Bool.true_and, Bool.and_self, Nat.zero_add, Option.map_some, Option.bind_some, List.map_cons, List.map_nil, ev_add, ev_sub, ev_mul, ev_lss, ev_leq, ev_gtr, ev_geq, ev_eql, ev_neq, ev_seql, ev_sneq, ev_sleq, ev_slss, ev_not, ev_min, ev_max, asNat_nat, asNat_zero, asNat_one, asNat_two, asNat_three, vb_len, List.length_cons, List.length_nil, Nat.reduceAdd, Nat.reduceLeDiff, Nat.reduceMul, Int.reduceEq, Int.reduceLT, Int.reduceLE, Int.reduceNeg, Int.reduceAdd, Int.reduceSub, Nat.reduceLT, decide_true, decide_false, not_true_eq_false, not_false_eq_true, and_self, and_true, true_and, storeA, List.take_zero, List.drop_succ_cons, List.drop_zero, List.nil_append, List.append_nil, List.take_succ_cons, List.cons_append, cut_cons, cut_zero, cut_skip, tAt, hHide, hAt, upsAt, List.contains_cons, List.contains_nil, Nat.reduceBEq, Bool.or_true, Bool.true_or, Bool.or_false, Bool.false_or, Bool.or_self, Bool.and_true, Bool.true_and, Bool.and_false, Bool.false_and, beq_self_eq_true (α := Nat), Option.some_beq_some, Option.none_beq_some, Option.some_beq_none, Bool.false_eq_true, List.all_nil, touch, touchB, Nat.sub_self, List.range'_zero, Nat.add_sub_cancel_left, List.range'_one]; with_reducible rfl) ?_
        refine hT _ _ (Nat.le_succ _) (fun m h1 h2 => ?_) ⟨by show 3 ≤ n + 1; omega, ?_, ?_⟩ ?_
        · have e1 : ¬ m = 2 := by omega
          have e2 : ¬ m = n := by omega
          simp only [vop, val, argsT, upd_ap, Nat.reduceEqDiff, if_true, if_false, ite_true, ite_false, reduceIte, loadAt, loadA, AV.cells, AV.one, List.all_cons, List.all_nil, ofV, ofCell, plain, List.getElem?_cons_zero, List.getElem?_cons_succ, List.getElem?_toArray, Option.getD_some, Bool.not_true, Bool.not_false, Bool.false_eq_true, Bool.and_true, Bool.true_and, Bool.and_self, Nat.zero_add, Option.map_some, Option.bind_some, List.map_cons, List.map_nil, ev_add, ev_sub, ev_mul, ev_lss, ev_leq, ev_gtr, ev_geq, ev_eql, ev_neq, ev_seql, ev_sneq, ev_sleq, ev_slss, ev_not, ev_min, ev_max, asNat_nat, asNat_zero, asNat_one, asNat_two, asNat_three, vb_len, List.length_cons, List.length_nil, Nat.reduceAdd, Nat.reduceLeDiff, Nat.reduceMul, Int.reduceEq, Int.reduceLT, Int.reduceLE, Int.reduceNeg, Int.reduceAdd, Int.reduceSub, Nat.reduceLT, decide_true, decide_false, not_true_eq_false, not_false_eq_true, and_self, and_true, true_and, storeA, List.take_zero, List.drop_succ_cons, List.drop_zero, List.nil_append, List.append_nil, List.take_succ_cons, List.cons_append, cut_cons, cut_zero, cut_skip, tAt, hHide, hAt, upsAt, List.contains_cons, List.contains_nil, Nat.reduceBEq, Bool.or_true, Bool.true_or, Bool.or_false, Bool.false_or, Bool.or_self, Bool.and_true, Bool.true_and, Bool.and_false, Bool.false_and, beq_self_eq_true (α := Nat), Option.some_beq_some, Option.none_beq_some, Option.some_beq_none, Bool.false_eq_true, List.all_nil, touch, touchB, Nat.sub_self, List.range'_zero, Nat.add_sub_cancel_left, List.range'_one, e1, e2]
        · rw [firstErr_app d [x] j1]
          simp only [firstErr]
          rw [if_pos (by simpa using hb)]
        · simp only [vop, val, argsT, upd_ap, Nat.reduceEqDiff, if_true, if_false, ite_true, ite_false, reduceIte, loadAt, loadA, AV.cells, AV.one, List.all_cons, List.all_nil, ofV, ofCell, plain, List.getElem?_cons_zero, List.getElem?_cons_succ, List.getElem?_toArray, Option.getD_some, Bool.not_true, Bool.not_false, Bool.false_eq_true, Bool.and_true, Bool.true_and, Bool.and_self, Nat.zero_add, Option.map_some, Option.bind_some, List.map_cons, List.map_nil, ev_add, ev_sub, ev_mul, ev_lss, ev_leq, ev_gtr, ev_geq, ev_eql, ev_neq, ev_seql, ev_sneq, ev_sleq, ev_slss, ev_not, ev_min, ev_max, asNat_nat, asNat_zero, asNat_one, asNat_two, asNat_three, vb_len, List.length_cons, List.length_nil, Nat.reduceAdd, Nat.reduceLeDiff, Nat.reduceMul, Int.reduceEq, Int.reduceLT, Int.reduceLE, Int.reduceNeg, Int.reduceAdd, Int.reduceSub, Nat.reduceLT, decide_true, decide_false, not_true_eq_false, not_false_eq_true, and_self, and_true, true_and, storeA, List.take_zero, List.drop_succ_cons, List.drop_zero, List.nil_append, List.append_nil, List.take_succ_cons, List.cons_append, cut_cons, cut_zero, cut_skip, tAt, hHide, hAt, upsAt, List.contains_cons, List.contains_nil, Nat.reduceBEq, Bool.or_true, Bool.true_or, Bool.or_false, Bool.false_or, Bool.or_self, Bool.and_true, Bool.true_and, Bool.and_false, Bool.false_and, beq_self_eq_true (α := Nat), Option.some_beq_some, Option.none_beq_some, Option.some_beq_none, Bool.false_eq_true, List.all_nil, touch, touchB, Nat.sub_self, List.range'_zero, Nat.add_sub_cancel_left, List.range'_one, h1n, j2]
        · simp only [vop, val, argsT, upd_ap, Nat.reduceEqDiff, if_true, if_false, ite_true, ite_false, reduceIte, loadAt, loadA, AV.cells, AV.one, List.all_cons, List.all_nil, ofV, ofCell, plain, List.getElem?_cons_zero, List.getElem?_cons_succ, List.getElem?_toArray, Option.getD_some, Bool.not_true, Bool.not_false, Bool.false_eq_true, Bool.and_true, Bool.true_and, Bool.and_self, Nat.zero_add, Option.map_some, Option.bind_some, List.map_cons, List.map_nil, ev_add, ev_sub, ev_mul, ev_lss, ev_leq, ev_gtr, ev_geq, ev_eql, ev_neq, ev_seql, ev_sneq, ev_sleq, ev_slss, ev_not, ev_min, ev_max, asNat_nat, asNat_zero, asNat_one, asNat_two, asNat_three, vb_len, List.length_cons, List.length_nil, Nat.reduceAdd, Nat.reduceLeDiff, Nat.reduceMul, Int.reduceEq, Int.reduceLT, Int.reduceLE, Int.reduceNeg, Int.reduceAdd, Int.reduceSub, Nat.reduceLT, decide_true, decide_false, not_true_eq_false, not_false_eq_true, and_self, and_true, true_and, storeA, List.take_zero, List.drop_succ_cons, List.drop_zero, List.nil_append, List.append_nil, List.take_succ_cons, List.cons_append, cut_cons, cut_zero, cut_skip, tAt, hHide, hAt, upsAt, List.contains_cons, List.contains_nil, Nat.reduceBEq, Bool.or_true, Bool.true_or, Bool.or_false, Bool.false_or, Bool.or_self, Bool.and_true, Bool.true_and, Bool.and_false, Bool.false_and, beq_self_eq_true (α := Nat), Option.some_beq_some, Option.none_beq_some, Option.some_beq_none, Bool.false_eq_true, List.all_nil, touch, touchB, Nat.sub_self, List.range'_zero, Nat.add_sub_cancel_left, List.range'_one]
    · rintro h n ⟨j0, j1, j2⟩ hLp
      refine rangeEnd_norm (by show 2 + 1 ≤ n; omega) hLp rfl rfl ?_
      refine wB1 (wa t2 (wa hLp j2)) ?_
      simp only [one1, frz_s, Option.map_some, j1]
end Go.Proofs.Bv
namespace Go.Proofs.Bv
open Go
theorem ok116 : codeOk 8 (Tryz.f116.body.getD .skip) = true := by kernel_rfl
theorem ok63 : codeOk 35 (Tryz.f63.body.getD .skip) = true := by kernel_rfl
theorem of_Gf {C : Cfg} {f : FuncId} {args : List AV} {h h' : Heap} {n n' : Nat} {v : AV} (hg : Gf C f args h n fun r h1 n1 => r = v ∧ h1 = h' ∧ n1 = n') : ∃ k, (lv C k).fc f args h n = some (v, h', n') := by
  obtain ⟨k, r, h1, n1, e, rfl, rfl, rfl⟩ := hg.go
  exact ⟨k, e⟩
theorem fc116 (G : Nat → Option (List AV)) (l : List JV) (hl : l.length * 112 ≤ 140737488355328) (hne : l ≠ []) (h : Heap) (n : Nat) :
    ∃ k, (lv (Cf G) k).fc 116 [.psl (encs l) l.length] h n = some (.osl (n + 1) 0 l.length, upd (upd (upd h n (some (.cells [] 7 false))) n none) (n + 1) (some (.cells (encs l) 7 false)), n + 1 + 1) := by
  obtain ⟨k, hk⟩ : ∃ k, l.length = k + 1 := ⟨l.length - 1, by have := List.length_pos_iff.2 hne; omega⟩
  have hxl : (encs l).length = (k + 1) * 7 := by rw [encs_len, hk]
  have h1 : (k + 1) * 112 ≤ 140737488355328 := by omega
  have h2 : k + 1 ≤ 140737488355328 := by omega
  have h3 : 0 + (k + 1) * 7 ≤ (k + 1) * 7 := by omega
  have h4 : cut (encs l) 0 ((k + 1) * 7) = encs l := by
    simp only [cut, List.drop_zero]
    rw [List.take_of_length_le (by omega)]
  have hv : vbin Tryz.prog .eql 25 (.tmp 3) (.const (.slice none 0 0)) (.psl (encs l) (k + 1)) .nilS = some (.sc (.bool false)) := by
    simp only [vbin, toVal, Tryz.underlying25, nilDesc, vnil]
  refine of_Gf ?_
  rw [hk]
  refine Gf_enter (C := Cf G) Tryz.func116 rfl ok116 (Nat.le_of_ble_eq_true rfl) ?_
  simp only [Tryz.f116, Option.getD_some]
  refine wB1 (wa hv (wa hxl (wa h1 (wa h2 (wa h3 h4))))) ?_
  exact ⟨rfl, rfl, rfl⟩
theorem orcE (G : Nat → Option (List AV)) (h : Heap) (l : List JV) (hne : l ≠ []) : orcTry (Cf G) 116 ([.psl (encs l) l.length] ++ []) h = none := by
  cases l with
  | nil => exact absurd rfl hne
  | cons x r =>
    simp only [orcTry, Cf, orcF, Nat.reduceEqDiff, if_false, if_true, List.append_nil, List.all_cons, noBox, List.all_nil, Bool.and_self, mapF, frz_l, orcEmpty, Option.map_none, List.length_cons]
    split <;> simp_all
set_option maxHeartbeats 8000000 in
set_option maxRecDepth 100000 in
theorem pc63 (G : Nat → Option (List AV)) : (v : JV) → Fit v → Pc (Cf G) 63 [.agg (enc v)] (.agg (enc v))
  | .mk kk ng cf ex t l ks => fun hfit => by
    have hnl := hfit.1.nlist
    have ih : ∀ x ∈ l, Pc (Cf G) 63 [.agg (enc x)] (.agg (enc x)) := fun x hx => pc63 G x (Fits_mem hfit.2 x hx)
    have o1 : orcClone 1 4 [.psl (u32s cf) cf.length] = some (.psl (u32s cf) cf.length) := by
      simp only [orcClone]
      rw [if_pos ⟨u32s_len1 cf, hfit.1.ncoef, u32s_pur cf⟩]
    have o2 : orcClone 1 16 [.psl (strs ks) ks.length] = some (.psl (strs ks) ks.length) := by
      simp only [orcClone]
      rw [if_pos ⟨by simp [strs], hfit.1.nkeys, strs_pur ks⟩]
    by_cases hle : l = []
    · subst hle
      refine Pc_of (Gf_enter (C := Cf G) Tryz.func63 rfl ok63 (Nat.le_of_ble_eq_true rfl) ?_)
      simp only [Tryz.f63, Option.getD_some]
      simp only [enc]
      refine gC1 (wa o1 (wa o2 (wa (@encs.eq_1) (@encs.eq_2)))) trivial ?_
      refine st_loop ?_
      refine gC1 (wa o1 (wa o2 (wa (@encs.eq_1) (@encs.eq_2)))) trivial ?_
      rfl
    · obtain ⟨k, hk⟩ : ∃ k, l.length = k + 1 := ⟨l.length - 1, by have := List.length_pos_iff.2 hle; omega⟩
      have h116 := fc116 G l hnl hle noHeap 2
      refine Pc_of (Gf_enter (C := Cf G) Tryz.func63 rfl ok63 (Nat.le_of_ble_eq_true rfl) ?_)
      simp only [Tryz.f63, Option.getD_some]
      simp only [enc]
      repeat' first | refine w_op rfl rfl ?_ | refine x_p rfl ?_ | refine w_sr ?_ | refine st_nil ?_ | refine w_seq ?_ | refine st_region ?_ | refine st_block ?_ | refine w_cond ?_ | refine b_t ?_ | refine b_f ?_ | refine st_skip ?_ | refine st_exit ?_ | refine st_ret ?_ | refine st_onNormN ?_ | refine st_onNormE ?_ | refine st_onNormR ?_ | refine st_onExitN ?_ | refine st_onExitR ?_ | refine st_onExitS ?_ | refine st_onExitO (by decide) ?_ | refine g_t ?_ | refine g_f rfl ?_ | refine o_op rfl ?_ | refine w_wr ?_ | refine w_wn ?_ | refine d_c rfl ?_ | refine d_on rfl ?_ | refine d_op rfl ?_ | refine d_y ?_ | refine d_gd rfl ?_ | refine d_t ?_ | refine d_f ?_ | refine d_nil ?_ | refine w_dg rfl ?_ | refine d_mid ?_ | refine d_mj ?_ | refine d_e ?_ | refine n_0 rfl ?_ | refine d_n ?_ | refine k_i rfl (orcE G _ l hle) (h116 ) ?_ | refine n_1 (by omega) rfl ?_ | refine k_d rfl (orcE G _ l hle) rfl (h116 ) ?_ | refine d_m (by omega) ?_ | refine k_o rfl rfl rfl ?_ | refine w_gd rfl ?_ | ((first | refine zE1 ?_ | refine w_cl rfl rfl ?_ | refine o_cl rfl ?_ | refine d_cl rfl ?_); (conv => arg 1; try simp only [go_sem, Nat.reduceEqDiff, reduceIte, Nat.reduceAdd, Nat.reduceLeDiff, Nat.reduceMul, Int.reduceEq, Int.reduceLT, Int.reduceLE, Int.reduceNeg, Int.reduceAdd, Int.reduceSub, Nat.reduceLT, Nat.reduceBEq, Nat.reduceSub, Nat.reducePow, o1, o2, List.range'_succ]); first | refine zE3 ?_ | refine zE2 ?_ | refine zE4 ?_ | refine zE5 ?_ | refine zE6 ?_ | refine zE7 ?_ | refine zE8 ?_) | (refine w_u true ?_; (conv => arg 1; reduce); refine zR1 ?_) | (refine b_s (fun hb => ?_) (fun hb => ?_) <;> ((try simp only [hn1, hn2, hn3, hn4] at hb); first | (exfalso; omega) | skip)) | (first | refine g_s (fun hb => ?_) (fun hb => ?_) | refine d_s (fun hb => ?_) (fun hb => ?_)) <;> ((try simp only [hn1, hn2] at hb); rw [hb]; try simp only [hn3, hn4] at hb)
      refine Gc_loop_inv (fun m st => ∃ d r, l = d ++ r ∧ m = r.length ∧ 4 ≤ st.n ∧ st.T 1 = .ptr 0 0 ∧ st.T 2 = .ptr 1 0 ∧ st.T 20 = .osl 3 0 l.length ∧ st.T 21 = .sc (.int .i64 l.length) ∧ st.T 22 = .sc (.int .i64 d.length) ∧
        st.h 0 = some (.cells [.sc (.int .i64 kk), .sc (.bool ng), .psl (u32s cf) cf.length, .sc (.int .i64 ex), .sc (.string t), .osl 3 0 l.length, .psl (strs ks) ks.length] 0 false) ∧
        (∃ z0 z1 z2 z3 z4 z5 z6, st.h 1 = some (.cells [z0, z1, z2, z3, z4, z5, z6] 0 false)) ∧ st.h 3 = some (.cells (encs l) 7 false)) ?_ l.length _ ⟨[], l, rfl, rfl, ?_⟩
      · rintro m ⟨T, h, n⟩ ⟨d, r, hdr, rfl, hn, h1, h2, h20, h21, h22, q0, ⟨z0, z1, z2, z3, z4, z5, z6, q1⟩, q3⟩
        simp only at hn h1 h2 h20 h21 h22 q0 q1 q3
        cases r with
        | nil =>
          have e : d = l := by simp [hdr]
          have hge : ¬ (d.length : Int) < (l.length : Int) := by rw [e]; omega
          refine wB1 (wa h1 (wa h2 (wa h20 (wa h21 (wa h22 (wa hge (wa q0 (wa q1 q3)))))))) ?_
          simp only [one1]
          rw [frz_a]
          simp only [mapF, frz_s, frz_l]
          rw [frz_w (by simp only [vop, val, argsT, upd_ap, Nat.reduceEqDiff, if_true, if_false, ite_true, ite_false, reduceIte, loadAt, loadA, AV.cells, AV.one, List.all_cons, List.all_nil, ofV, ofCell, plain, List.getElem?_cons_zero, List.getElem?_cons_succ, List.getElem?_toArray, Option.getD_some, Bool.not_true, Bool.not_false, Bool.false_eq_true, Bool.and_true, Bool.true_and, Bool.and_self, Nat.zero_add, Option.map_some, Option.bind_some, List.map_cons, List.map_nil, ev_add, ev_sub, ev_mul, ev_lss, ev_leq, ev_gtr, ev_geq, ev_eql, ev_neq, ev_seql, ev_sneq, ev_sleq, ev_slss, ev_not, ev_min, ev_max, asNat_nat, asNat_zero, asNat_one, asNat_two, asNat_three, vb_len, List.length_cons, List.length_nil, Nat.reduceAdd, Nat.reduceLeDiff, Nat.reduceMul, Int.reduceEq, Int.reduceLT, Int.reduceLE, Int.reduceNeg, Int.reduceAdd, Int.reduceSub, Nat.reduceLT, decide_true, decide_false, not_true_eq_false, not_false_eq_true, and_self, and_true, true_and, storeA, List.take_zero, List.drop_succ_cons, List.drop_zero, List.nil_append, List.append_nil, List.take_succ_cons, List.cons_append, cut_cons, cut_zero, cut_skip, tAt, hHide, hAt, upsAt, List.contains_cons, List.contains_nil, Nat.reduceBEq, Bool.or_true, Bool.true_or, Bool.or_false, Bool.false_or, Bool.or_self, Bool.and_true, Bool.true_and, Bool.and_false, Bool.false_and, beq_self_eq_true (α := Nat), Option.some_beq_some, Option.none_beq_some, Option.some_beq_none, Bool.false_eq_true, List.all_nil, touch, touchB, Nat.sub_self, List.range'_zero, Nat.add_sub_cancel_left, List.range'_one, q3]; with_reducible rfl) (encs_len l) (encs_pur l)]
          rfl
        | cons x r =>
          have hlt : (d.length : Int) < (l.length : Int) := by rw [hdr]; simp; omega
          have hltn : d.length < l.length := by omega
          have hcut : cut (encs l) (d.length * 7) 7 = enc x := by rw [hdr]; exact cut_encs d x r
          have hle : d.length * 7 + 7 ≤ (encs l).length := by rw [encs_len]; omega
          have hw : (encs l).take (d.length * 7) ++ enc x ++ (encs l).drop (d.length * 7 + 7) = encs l := by
            rw [← hcut, cut, List.append_assoc, ← List.drop_drop, List.take_append_drop, List.take_append_drop]
          have w1 : IntKind.i64.wrap ((d.length : Int) + 1) = (d.length : Int) + 1 := i64 (by omega) (by omega)
          have hx := ih x (by rw [hdr]; simp)
          obtain ⟨k', n', c', e', t', l', ks'⟩ := x
          simp only [enc] at hx hcut hw
          have b0 : (n == 0) = false := by simp; omega
          have b1 : (n == 1) = false := by simp; omega
          have b3 : (n == 3) = false := by simp; omega
          have b0' : (0 == n) = false := by simp; omega
          have b3' : (3 == n) = false := by simp; omega
          have e0 : ¬ 0 = n := by omega
          have e1 : ¬ 1 = n := by omega
          have e3 : ¬ 3 = n := by omega
          have e3' : ¬ n = 3 := by omega
          refine gC1 (wa h1 (wa h2 (wa h20 (wa h21 (wa h22 (wa hlt (wa hltn (wa hcut (wa hle (wa hw (wa q0 (wa q1 (wa q3 (wa b0 (wa b1 (wa b3 (wa b0' (wa b3' (wa e0 (wa e1 (wa e3 e3'))))))))))))))))))))) (wa hx trivial) ?_
          refine ⟨r.length, by simp, d ++ [.mk k' n' c' e' t' l' ks'], r, by simp [hdr], rfl, by show 4 ≤ n + 1; omega, ?_, ?_, ?_, ?_, ?_, ?_, ⟨z0, z1, z2, z3, z4, z5, z6, ?_⟩, ?_⟩
          · simp only [vop, val, argsT, upd_ap, Nat.reduceEqDiff, if_true, if_false, ite_true, ite_false, reduceIte, loadAt, loadA, AV.cells, AV.one, List.all_cons, List.all_nil, ofV, ofCell, plain, List.getElem?_cons_zero, List.getElem?_cons_succ, List.getElem?_toArray, Option.getD_some, Bool.not_true, Bool.not_false, Bool.false_eq_true, Bool.and_true, Bool.true_and, Bool.and_self, Nat.zero_add, Option.map_some, Option.bind_some, List.map_cons, List.map_nil, ev_add, ev_sub, ev_mul, ev_lss, ev_leq, ev_gtr, ev_geq, ev_eql, ev_neq, ev_seql, ev_sneq, ev_sleq, ev_slss, ev_not, ev_min, ev_max, asNat_nat, asNat_zero, asNat_one, asNat_two, asNat_three, vb_len, List.length_cons, List.length_nil, Nat.reduceAdd, Nat.reduceLeDiff, Nat.reduceMul, Int.reduceEq, Int.reduceLT, Int.reduceLE, Int.reduceNeg, Int.reduceAdd, Int.reduceSub, Nat.reduceLT, decide_true, decide_false, not_true_eq_false, not_false_eq_true, and_self, and_true, true_and, storeA, List.take_zero, List.drop_succ_cons, List.drop_zero, List.nil_append, List.append_nil, List.take_succ_cons, List.cons_append, cut_cons, cut_zero, cut_skip, tAt, hHide, hAt, upsAt, List.contains_cons, List.contains_nil, Nat.reduceBEq, Bool.or_true, Bool.true_or, Bool.or_false, Bool.false_or, Bool.or_self, Bool.and_true, Bool.true_and, Bool.and_false, Bool.false_and, beq_self_eq_true (α := Nat), Option.some_beq_some, Option.none_beq_some, Option.some_beq_none, Bool.false_eq_true, List.all_nil, touch, touchB, Nat.sub_self, List.range'_zero, Nat.add_sub_cancel_left, List.range'_one, h1]
          · simp only [vop, val, argsT, upd_ap, Nat.reduceEqDiff, if_true, if_false, ite_true, ite_false, reduceIte, loadAt, loadA, AV.cells, AV.one, List.all_cons, List.all_nil, ofV, ofCell, plain, List.getElem?_cons_zero, List.getElem?_cons_succ, List.getElem?_toArray, Option.getD_some, Bool.not_true, Bool.not_false, Bool.false_eq_true, Bool.and_true, Bool.true_and, Bool.and_self, Nat.zero_add, Option.map_some, Option.bind_some, List.map_cons, List.map_nil, ev_add, ev_sub, ev_mul, ev_lss, ev_leq, ev_gtr, ev_geq, ev_eql, ev_neq, ev_seql, ev_sneq, ev_sleq, ev_slss, ev_not, ev_min, ev_max, asNat_nat, asNat_zero, asNat_one, asNat_two, asNat_three, vb_len, List.length_cons, List.length_nil, Nat.reduceAdd, Nat.reduceLeDiff, Nat.reduceMul, Int.reduceEq, Int.reduceLT, Int.reduceLE, Int.reduceNeg, Int.reduceAdd, Int.reduceSub, Nat.reduceLT, decide_true, decide_false, not_true_eq_false, not_false_eq_true, and_self, and_true, true_and, storeA, List.take_zero, List.drop_succ_cons, List.drop_zero, List.nil_append, List.append_nil, List.take_succ_cons, List.cons_append, cut_cons, cut_zero, cut_skip, tAt, hHide, hAt, upsAt, List.contains_cons, List.contains_nil, Nat.reduceBEq, Bool.or_true, Bool.true_or, Bool.or_false, Bool.false_or, Bool.or_self, Bool.and_true, Bool.true_and, Bool.and_false, Bool.false_and, beq_self_eq_true (α := Nat), Option.some_beq_some, Option.none_beq_some, Option.some_beq_none, Bool.false_eq_true, List.all_nil, touch, touchB, Nat.sub_self, List.range'_zero, Nat.add_sub_cancel_left, List.range'_one, h2]
          · simp only [vop, val, argsT, upd_ap, Nat.reduceEqDiff, if_true, if_false, ite_true, ite_false, reduceIte, loadAt, loadA, AV.cells, AV.one, List.all_cons, List.all_nil, ofV, ofCell, plain, List.getElem?_cons_zero, List.getElem?_cons_succ, List.getElem?_toArray, Option.getD_some, Bool.not_true, Bool.not_false, Bool.false_eq_true, Bool.and_true, Bool.true_and, Bool.and_self, Nat.zero_add, Option.map_some, Option.bind_some, List.map_cons, List.map_nil, ev_add, ev_sub, ev_mul, ev_lss, ev_leq, ev_gtr, ev_geq, ev_eql, ev_neq, ev_seql, ev_sneq, ev_sleq, ev_slss, ev_not, ev_min, ev_max, asNat_nat, asNat_zero, asNat_one, asNat_two, asNat_three, vb_len, List.length_cons, List.length_nil, Nat.reduceAdd, Nat.reduceLeDiff, Nat.reduceMul, Int.reduceEq, Int.reduceLT, Int.reduceLE, Int.reduceNeg, Int.reduceAdd, Int.reduceSub, Nat.reduceLT, decide_true, decide_false, not_true_eq_false, not_false_eq_true, and_self, and_true, true_and, storeA, List.take_zero, List.drop_succ_cons, List.drop_zero, List.nil_append, List.append_nil, List.take_succ_cons, List.cons_append, cut_cons, cut_zero, cut_skip, tAt, hHide, hAt, upsAt, List.contains_cons, List.contains_nil, Nat.reduceBEq, Bool.or_true, Bool.true_or, Bool.or_false, Bool.false_or, Bool.or_self, Bool.and_true, Bool.true_and, Bool.and_false, Bool.false_and, beq_self_eq_true (α := Nat), Option.some_beq_some, Option.none_beq_some, Option.some_beq_none, Bool.false_eq_true, List.all_nil, touch, touchB, Nat.sub_self, List.range'_zero, Nat.add_sub_cancel_left, List.range'_one, h20]
          · simp only [vop, val, argsT, upd_ap, Nat.reduceEqDiff, if_true, if_false, ite_true, ite_false, reduceIte, loadAt, loadA, AV.cells, AV.one, List.all_cons, List.all_nil, ofV, ofCell, plain, List.getElem?_cons_zero, List.getElem?_cons_succ, List.getElem?_toArray, Option.getD_some, Bool.not_true, Bool.not_false, Bool.false_eq_true, Bool.and_true, Bool.true_and, Bool.and_self, Nat.zero_add, Option.map_some, Option.bind_some, List.map_cons, List.map_nil, ev_add, ev_sub, ev_mul, ev_lss, ev_leq, ev_gtr, ev_geq, ev_eql, ev_neq, ev_seql, ev_sneq, ev_sleq, ev_slss, ev_not, ev_min, ev_max, asNat_nat, asNat_zero, asNat_one, asNat_two, asNat_three, vb_len, List.length_cons, List.length_nil, Nat.reduceAdd, Nat.reduceLeDiff, Nat.reduceMul, Int.reduceEq, Int.reduceLT, Int.reduceLE, Int.reduceNeg, Int.reduceAdd, Int.reduceSub, Nat.reduceLT, decide_true, decide_false, not_true_eq_false, not_false_eq_true, and_self, and_true, true_and, storeA, List.take_zero, List.drop_succ_cons, List.drop_zero, List.nil_append, List.append_nil, List.take_succ_cons, List.cons_append, cut_cons, cut_zero, cut_skip, tAt, hHide, hAt, upsAt, List.contains_cons, List.contains_nil, Nat.reduceBEq, Bool.or_true, Bool.true_or, Bool.or_false, Bool.false_or, Bool.or_self, Bool.and_true, Bool.true_and, Bool.and_false, Bool.false_and, beq_self_eq_true (α := Nat), Option.some_beq_some, Option.none_beq_some, Option.some_beq_none, Bool.false_eq_true, List.all_nil, touch, touchB, Nat.sub_self, List.range'_zero, Nat.add_sub_cancel_left, List.range'_one, h21]
          · simp only [vop, val, argsT, upd_ap, Nat.reduceEqDiff, if_true, if_false, ite_true, ite_false, reduceIte, loadAt, loadA, AV.cells, AV.one, List.all_cons, List.all_nil, ofV, ofCell, plain, List.getElem?_cons_zero, List.getElem?_cons_succ, List.getElem?_toArray, Option.getD_some, Bool.not_true, Bool.not_false, Bool.false_eq_true, Bool.and_true, Bool.true_and, Bool.and_self, Nat.zero_add, Option.map_some, Option.bind_some, List.map_cons, List.map_nil, ev_add, ev_sub, ev_mul, ev_lss, ev_leq, ev_gtr, ev_geq, ev_eql, ev_neq, ev_seql, ev_sneq, ev_sleq, ev_slss, ev_not, ev_min, ev_max, asNat_nat, asNat_zero, asNat_one, asNat_two, asNat_three, vb_len, List.length_cons, List.length_nil, Nat.reduceAdd, Nat.reduceLeDiff, Nat.reduceMul, Int.reduceEq, Int.reduceLT, Int.reduceLE, Int.reduceNeg, Int.reduceAdd, Int.reduceSub, Nat.reduceLT, decide_true, decide_false, not_true_eq_false, not_false_eq_true, and_self, and_true, true_and, storeA, List.take_zero, List.drop_succ_cons, List.drop_zero, List.nil_append, List.append_nil, List.take_succ_cons, List.cons_append, cut_cons, cut_zero, cut_skip, tAt, hHide, hAt, upsAt, List.contains_cons, List.contains_nil, Nat.reduceBEq, Bool.or_true, Bool.true_or, Bool.or_false, Bool.false_or, Bool.or_self, Bool.and_true, Bool.true_and, Bool.and_false, Bool.false_and, beq_self_eq_true (α := Nat), Option.some_beq_some, Option.none_beq_some, Option.some_beq_none, Bool.false_eq_true, List.all_nil, touch, touchB, Nat.sub_self, List.range'_zero, Nat.add_sub_cancel_left, List.range'_one, w1]
            simp
          · simp only [vop, val, argsT, upd_ap, Nat.reduceEqDiff, if_true, if_false, ite_true, ite_false, reduceIte, loadAt, loadA, AV.cells, AV.one, List.all_cons, List.all_nil, ofV, ofCell, plain, List.getElem?_cons_zero, List.getElem?_cons_succ, List.getElem?_toArray, Option.getD_some, Bool.not_true, Bool.not_false, Bool.false_eq_true, Bool.and_true, Bool.true_and, Bool.and_self, Nat.zero_add, Option.map_some, Option.bind_some, List.map_cons, List.map_nil, ev_add, ev_sub, ev_mul, ev_lss, ev_leq, ev_gtr, ev_geq, ev_eql, ev_neq, ev_seql, ev_sneq, ev_sleq, ev_slss, ev_not, ev_min, ev_max, asNat_nat, asNat_zero, asNat_one, asNat_two, asNat_three, vb_len, List.length_cons, List.length_nil, Nat.reduceAdd, Nat.reduceLeDiff, Nat.reduceMul, Int.reduceEq, Int.reduceLT, Int.reduceLE, Int.reduceNeg, Int.reduceAdd, Int.reduceSub, Nat.reduceLT, decide_true, decide_false, not_true_eq_false, not_false_eq_true, and_self, and_true, true_and, storeA, List.take_zero, List.drop_succ_cons, List.drop_zero, List.nil_append, List.append_nil, List.take_succ_cons, List.cons_append, cut_cons, cut_zero, cut_skip, tAt, hHide, hAt, upsAt, List.contains_cons, List.contains_nil, Nat.reduceBEq, Bool.or_true, Bool.true_or, Bool.or_false, Bool.false_or, Bool.or_self, Bool.and_true, Bool.true_and, Bool.and_false, Bool.false_and, beq_self_eq_true (α := Nat), Option.some_beq_some, Option.none_beq_some, Option.some_beq_none, Bool.false_eq_true, List.all_nil, touch, touchB, Nat.sub_self, List.range'_zero, Nat.add_sub_cancel_left, List.range'_one, e0, q0]
          · simp only [vop, val, argsT, upd_ap, Nat.reduceEqDiff, if_true, if_false, ite_true, ite_false, reduceIte, loadAt, loadA, AV.cells, AV.one, List.all_cons, List.all_nil, ofV, ofCell, plain, List.getElem?_cons_zero, List.getElem?_cons_succ, List.getElem?_toArray, Option.getD_some, Bool.not_true, Bool.not_false, Bool.false_eq_true, Bool.and_true, Bool.true_and, Bool.and_self, Nat.zero_add, Option.map_some, Option.bind_some, List.map_cons, List.map_nil, ev_add, ev_sub, ev_mul, ev_lss, ev_leq, ev_gtr, ev_geq, ev_eql, ev_neq, ev_seql, ev_sneq, ev_sleq, ev_slss, ev_not, ev_min, ev_max, asNat_nat, asNat_zero, asNat_one, asNat_two, asNat_three, vb_len, List.length_cons, List.length_nil, Nat.reduceAdd, Nat.reduceLeDiff, Nat.reduceMul, Int.reduceEq, Int.reduceLT, Int.reduceLE, Int.reduceNeg, Int.reduceAdd, Int.reduceSub, Nat.reduceLT, decide_true, decide_false, not_true_eq_false, not_false_eq_true, and_self, and_true, true_and, storeA, List.take_zero, List.drop_succ_cons, List.drop_zero, List.nil_append, List.append_nil, List.take_succ_cons, List.cons_append, cut_cons, cut_zero, cut_skip, tAt, hHide, hAt, upsAt, List.contains_cons, List.contains_nil, Nat.reduceBEq, Bool.or_true, Bool.true_or, Bool.or_false, Bool.false_or, Bool.or_self, Bool.and_true, Bool.true_and, Bool.and_false, Bool.false_and, beq_self_eq_true (α := Nat), Option.some_beq_some, Option.none_beq_some, Option.some_beq_none, Bool.false_eq_true, List.all_nil, touch, touchB, Nat.sub_self, List.range'_zero, Nat.add_sub_cancel_left, List.range'_one, e1, q1]
          · simp only [vop, val, argsT, upd_ap, Nat.reduceEqDiff, if_true, if_false, ite_true, ite_false, reduceIte, loadAt, loadA, AV.cells, AV.one, List.all_cons, List.all_nil, ofV, ofCell, plain, List.getElem?_cons_zero, List.getElem?_cons_succ, List.getElem?_toArray, Option.getD_some, Bool.not_true, Bool.not_false, Bool.false_eq_true, Bool.and_true, Bool.true_and, Bool.and_self, Nat.zero_add, Option.map_some, Option.bind_some, List.map_cons, List.map_nil, ev_add, ev_sub, ev_mul, ev_lss, ev_leq, ev_gtr, ev_geq, ev_eql, ev_neq, ev_seql, ev_sneq, ev_sleq, ev_slss, ev_not, ev_min, ev_max, asNat_nat, asNat_zero, asNat_one, asNat_two, asNat_three, vb_len, List.length_cons, List.length_nil, Nat.reduceAdd, Nat.reduceLeDiff, Nat.reduceMul, Int.reduceEq, Int.reduceLT, Int.reduceLE, Int.reduceNeg, Int.reduceAdd, Int.reduceSub, Nat.reduceLT, decide_true, decide_false, not_true_eq_false, not_false_eq_true, and_self, and_true, true_and, storeA, List.take_zero, List.drop_succ_cons, List.drop_zero, List.nil_append, List.append_nil, List.take_succ_cons, List.cons_append, cut_cons, cut_zero, cut_skip, tAt, hHide, hAt, upsAt, List.contains_cons, List.contains_nil, Nat.reduceBEq, Bool.or_true, Bool.true_or, Bool.or_false, Bool.false_or, Bool.or_self, Bool.and_true, Bool.true_and, Bool.and_false, Bool.false_and, beq_self_eq_true (α := Nat), Option.some_beq_some, Option.none_beq_some, Option.some_beq_none, Bool.false_eq_true, List.all_nil, touch, touchB, Nat.sub_self, List.range'_zero, Nat.add_sub_cancel_left, List.range'_one, e3, q3, hw]
      · refine ⟨Nat.le_refl _, ?_, ?_, ?_, ?_, ?_, ?_, ⟨.sc (.int .i64 0), .sc (.bool false), .nilS, .sc (.int .i64 0), .sc (.string ByteArray.empty), .nilS, .nilS, ?_⟩, ?_⟩
        · simp only [vop, val, argsT, upd_ap, Nat.reduceEqDiff, if_true, if_false, ite_true, ite_false, reduceIte, loadAt, loadA, AV.cells, AV.one, List.all_cons, List.all_nil, ofV, ofCell, plain, List.getElem?_cons_zero, List.getElem?_cons_succ, List.getElem?_toArray, Option.getD_some, Bool.not_true, Bool.not_false, Bool.false_eq_true, Bool.and_true, Bool.true_and, Bool.and_self, Nat.zero_add, Option.map_some, Option.bind_some, List.map_cons, List.map_nil, ev_add, ev_sub, ev_mul, ev_lss, ev_leq, ev_gtr, ev_geq, ev_eql, ev_neq, ev_seql, ev_sneq, ev_sleq, ev_slss, ev_not, ev_min, ev_max, asNat_nat, asNat_zero, asNat_one, asNat_two, asNat_three, vb_len, List.length_cons, List.length_nil, Nat.reduceAdd, Nat.reduceLeDiff, Nat.reduceMul, Int.reduceEq, Int.reduceLT, Int.reduceLE, Int.reduceNeg, Int.reduceAdd, Int.reduceSub, Nat.reduceLT, decide_true, decide_false, not_true_eq_false, not_false_eq_true, and_self, and_true, true_and, storeA, List.take_zero, List.drop_succ_cons, List.drop_zero, List.nil_append, List.append_nil, List.take_succ_cons, List.cons_append, cut_cons, cut_zero, cut_skip, tAt, hHide, hAt, upsAt, List.contains_cons, List.contains_nil, Nat.reduceBEq, Bool.or_true, Bool.true_or, Bool.or_false, Bool.false_or, Bool.or_self, Bool.and_true, Bool.true_and, Bool.and_false, Bool.false_and, beq_self_eq_true (α := Nat), Option.some_beq_some, Option.none_beq_some, Option.some_beq_none, Bool.false_eq_true, List.all_nil, touch, touchB, Nat.sub_self, List.range'_zero, Nat.add_sub_cancel_left, List.range'_one]
        · simp only [vop, val, argsT, upd_ap, Nat.reduceEqDiff, if_true, if_false, ite_true, ite_false, reduceIte, loadAt, loadA, AV.cells, AV.one, List.all_cons, List.all_nil, ofV, ofCell, plain, List.getElem?_cons_zero, List.getElem?_cons_succ, List.getElem?_toArray, Option.getD_some, Bool.not_true, Bool.not_false, Bool.false_eq_true, Bool.and_true, Bool.true_and, Bool.and_self, Nat.zero_add, Option.map_some, Option.bind_some, List.map_cons, List.map_nil, ev_add, ev_sub, ev_mul, ev_lss, ev_leq, ev_gtr, ev_geq, ev_eql, ev_neq, ev_seql, ev_sneq, ev_sleq, ev_slss, ev_not, ev_min, ev_max, asNat_nat, asNat_zero, asNat_one, asNat_two, asNat_three, vb_len, List.length_cons, List.length_nil, Nat.reduceAdd, Nat.reduceLeDiff, Nat.reduceMul, Int.reduceEq, Int.reduceLT, Int.reduceLE, Int.reduceNeg, Int.reduceAdd, Int.reduceSub, Nat.reduceLT, decide_true, decide_false, not_true_eq_false, not_false_eq_true, and_self, and_true, true_and, storeA, List.take_zero, List.drop_succ_cons, List.drop_zero, List.nil_append, List.append_nil, List.take_succ_cons, List.cons_append, cut_cons, cut_zero, cut_skip, tAt, hHide, hAt, upsAt, List.contains_cons, List.contains_nil, Nat.reduceBEq, Bool.or_true, Bool.true_or, Bool.or_false, Bool.false_or, Bool.or_self, Bool.and_true, Bool.true_and, Bool.and_false, Bool.false_and, beq_self_eq_true (α := Nat), Option.some_beq_some, Option.none_beq_some, Option.some_beq_none, Bool.false_eq_true, List.all_nil, touch, touchB, Nat.sub_self, List.range'_zero, Nat.add_sub_cancel_left, List.range'_one]
        · simp only [vop, val, argsT, upd_ap, Nat.reduceEqDiff, if_true, if_false, ite_true, ite_false, reduceIte, loadAt, loadA, AV.cells, AV.one, List.all_cons, List.all_nil, ofV, ofCell, plain, List.getElem?_cons_zero, List.getElem?_cons_succ, List.getElem?_toArray, Option.getD_some, Bool.not_true, Bool.not_false, Bool.false_eq_true, Bool.and_true, Bool.true_and, Bool.and_self, Nat.zero_add, Option.map_some, Option.bind_some, List.map_cons, List.map_nil, ev_add, ev_sub, ev_mul, ev_lss, ev_leq, ev_gtr, ev_geq, ev_eql, ev_neq, ev_seql, ev_sneq, ev_sleq, ev_slss, ev_not, ev_min, ev_max, asNat_nat, asNat_zero, asNat_one, asNat_two, asNat_three, vb_len, List.length_cons, List.length_nil, Nat.reduceAdd, Nat.reduceLeDiff, Nat.reduceMul, Int.reduceEq, Int.reduceLT, Int.reduceLE, Int.reduceNeg, Int.reduceAdd, Int.reduceSub, Nat.reduceLT, decide_true, decide_false, not_true_eq_false, not_false_eq_true, and_self, and_true, true_and, storeA, List.take_zero, List.drop_succ_cons, List.drop_zero, List.nil_append, List.append_nil, List.take_succ_cons, List.cons_append, cut_cons, cut_zero, cut_skip, tAt, hHide, hAt, upsAt, List.contains_cons, List.contains_nil, Nat.reduceBEq, Bool.or_true, Bool.true_or, Bool.or_false, Bool.false_or, Bool.or_self, Bool.and_true, Bool.true_and, Bool.and_false, Bool.false_and, beq_self_eq_true (α := Nat), Option.some_beq_some, Option.none_beq_some, Option.some_beq_none, Bool.false_eq_true, List.all_nil, touch, touchB, Nat.sub_self, List.range'_zero, Nat.add_sub_cancel_left, List.range'_one]
        · simp only [vop, val, argsT, upd_ap, Nat.reduceEqDiff, if_true, if_false, ite_true, ite_false, reduceIte, loadAt, loadA, AV.cells, AV.one, List.all_cons, List.all_nil, ofV, ofCell, plain, List.getElem?_cons_zero, List.getElem?_cons_succ, List.getElem?_toArray, Option.getD_some, Bool.not_true, Bool.not_false, Bool.false_eq_true, Bool.and_true, Bool.true_and, Bool.and_self, Nat.zero_add, Option.map_some, Option.bind_some, List.map_cons, List.map_nil, ev_add, ev_sub, ev_mul, ev_lss, ev_leq, ev_gtr, ev_geq, ev_eql, ev_neq, ev_seql, ev_sneq, ev_sleq, ev_slss, ev_not, ev_min, ev_max, asNat_nat, asNat_zero, asNat_one, asNat_two, asNat_three, vb_len, List.length_cons, List.length_nil, Nat.reduceAdd, Nat.reduceLeDiff, Nat.reduceMul, Int.reduceEq, Int.reduceLT, Int.reduceLE, Int.reduceNeg, Int.reduceAdd, Int.reduceSub, Nat.reduceLT, decide_true, decide_false, not_true_eq_false, not_false_eq_true, and_self, and_true, true_and, storeA, List.take_zero, List.drop_succ_cons, List.drop_zero, List.nil_append, List.append_nil, List.take_succ_cons, List.cons_append, cut_cons, cut_zero, cut_skip, tAt, hHide, hAt, upsAt, List.contains_cons, List.contains_nil, Nat.reduceBEq, Bool.or_true, Bool.true_or, Bool.or_false, Bool.false_or, Bool.or_self, Bool.and_true, Bool.true_and, Bool.and_false, Bool.false_and, beq_self_eq_true (α := Nat), Option.some_beq_some, Option.none_beq_some, Option.some_beq_none, Bool.false_eq_true, List.all_nil, touch, touchB, Nat.sub_self, List.range'_zero, Nat.add_sub_cancel_left, List.range'_one]
        · simp only [vop, val, argsT, upd_ap, Nat.reduceEqDiff, if_true, if_false, ite_true, ite_false, reduceIte, loadAt, loadA, AV.cells, AV.one, List.all_cons, List.all_nil, ofV, ofCell, plain, List.getElem?_cons_zero, List.getElem?_cons_succ, List.getElem?_toArray, Option.getD_some, Bool.not_true, Bool.not_false, Bool.false_eq_true, Bool.and_true, Bool.true_and, Bool.and_self, Nat.zero_add, Option.map_some, Option.bind_some, List.map_cons, List.map_nil, ev_add, ev_sub, ev_mul, ev_lss, ev_leq, ev_gtr, ev_geq, ev_eql, ev_neq, ev_seql, ev_sneq, ev_sleq, ev_slss, ev_not, ev_min, ev_max, asNat_nat, asNat_zero, asNat_one, asNat_two, asNat_three, vb_len, List.length_cons, List.length_nil, Nat.reduceAdd, Nat.reduceLeDiff, Nat.reduceMul, Int.reduceEq, Int.reduceLT, Int.reduceLE, Int.reduceNeg, Int.reduceAdd, Int.reduceSub, Nat.reduceLT, decide_true, decide_false, not_true_eq_false, not_false_eq_true, and_self, and_true, true_and, storeA, List.take_zero, List.drop_succ_cons, List.drop_zero, List.nil_append, List.append_nil, List.take_succ_cons, List.cons_append, cut_cons, cut_zero, cut_skip, tAt, hHide, hAt, upsAt, List.contains_cons, List.contains_nil, Nat.reduceBEq, Bool.or_true, Bool.true_or, Bool.or_false, Bool.false_or, Bool.or_self, Bool.and_true, Bool.true_and, Bool.and_false, Bool.false_and, beq_self_eq_true (α := Nat), Option.some_beq_some, Option.none_beq_some, Option.some_beq_none, Bool.false_eq_true, List.all_nil, touch, touchB, Nat.sub_self, List.range'_zero, Nat.add_sub_cancel_left, List.range'_one]
          rfl
        · simp only [vop, val, argsT, upd_ap, Nat.reduceEqDiff, if_true, if_false, ite_true, ite_false, reduceIte, loadAt, loadA, AV.cells, AV.one, List.all_cons, List.all_nil, ofV, ofCell, plain, List.getElem?_cons_zero, List.getElem?_cons_succ, List.getElem?_toArray, Option.getD_some, Bool.not_true, Bool.not_false, Bool.false_eq_true, Bool.and_true, Bool.true_and, Bool.and_self, Nat.zero_add, Option.map_some, Option.bind_some, List.map_cons, List.map_nil, ev_add, ev_sub, ev_mul, ev_lss, ev_leq, ev_gtr, ev_geq, ev_eql, ev_neq, ev_seql, ev_sneq, ev_sleq, ev_slss, ev_not, ev_min, ev_max, asNat_nat, asNat_zero, asNat_one, asNat_two, asNat_three, vb_len, List.length_cons, List.length_nil, Nat.reduceAdd, Nat.reduceLeDiff, Nat.reduceMul, Int.reduceEq, Int.reduceLT, Int.reduceLE, Int.reduceNeg, Int.reduceAdd, Int.reduceSub, Nat.reduceLT, decide_true, decide_false, not_true_eq_false, not_false_eq_true, and_self, and_true, true_and, storeA, List.take_zero, List.drop_succ_cons, List.drop_zero, List.nil_append, List.append_nil, List.take_succ_cons, List.cons_append, cut_cons, cut_zero, cut_skip, tAt, hHide, hAt, upsAt, List.contains_cons, List.contains_nil, Nat.reduceBEq, Bool.or_true, Bool.true_or, Bool.or_false, Bool.false_or, Bool.or_self, Bool.and_true, Bool.true_and, Bool.and_false, Bool.false_and, beq_self_eq_true (α := Nat), Option.some_beq_some, Option.none_beq_some, Option.some_beq_none, Bool.false_eq_true, List.all_nil, touch, touchB, Nat.sub_self, List.range'_zero, Nat.add_sub_cancel_left, List.range'_one]
        · simp only [vop, val, argsT, upd_ap, Nat.reduceEqDiff, if_true, if_false, ite_true, ite_false, reduceIte, loadAt, loadA, AV.cells, AV.one, List.all_cons, List.all_nil, ofV, ofCell, plain, List.getElem?_cons_zero, List.getElem?_cons_succ, List.getElem?_toArray, Option.getD_some, Bool.not_true, Bool.not_false, Bool.false_eq_true, Bool.and_true, Bool.true_and, Bool.and_self, Nat.zero_add, Option.map_some, Option.bind_some, List.map_cons, List.map_nil, ev_add, ev_sub, ev_mul, ev_lss, ev_leq, ev_gtr, ev_geq, ev_eql, ev_neq, ev_seql, ev_sneq, ev_sleq, ev_slss, ev_not, ev_min, ev_max, asNat_nat, asNat_zero, asNat_one, asNat_two, asNat_three, vb_len, List.length_cons, List.length_nil, Nat.reduceAdd, Nat.reduceLeDiff, Nat.reduceMul, Int.reduceEq, Int.reduceLT, Int.reduceLE, Int.reduceNeg, Int.reduceAdd, Int.reduceSub, Nat.reduceLT, decide_true, decide_false, not_true_eq_false, not_false_eq_true, and_self, and_true, true_and, storeA, List.take_zero, List.drop_succ_cons, List.drop_zero, List.nil_append, List.append_nil, List.take_succ_cons, List.cons_append, cut_cons, cut_zero, cut_skip, tAt, hHide, hAt, upsAt, List.contains_cons, List.contains_nil, Nat.reduceBEq, Bool.or_true, Bool.true_or, Bool.or_false, Bool.false_or, Bool.or_self, Bool.and_true, Bool.true_and, Bool.and_false, Bool.false_and, beq_self_eq_true (α := Nat), Option.some_beq_some, Option.none_beq_some, Option.some_beq_none, Bool.false_eq_true, List.all_nil, touch, touchB, Nat.sub_self, List.range'_zero, Nat.add_sub_cancel_left, List.range'_one]
        · simp only [vop, val, argsT, upd_ap, Nat.reduceEqDiff, if_true, if_false, ite_true, ite_false, reduceIte, loadAt, loadA, AV.cells, AV.one, List.all_cons, List.all_nil, ofV, ofCell, plain, List.getElem?_cons_zero, List.getElem?_cons_succ, List.getElem?_toArray, Option.getD_some, Bool.not_true, Bool.not_false, Bool.false_eq_true, Bool.and_true, Bool.true_and, Bool.and_self, Nat.zero_add, Option.map_some, Option.bind_some, List.map_cons, List.map_nil, ev_add, ev_sub, ev_mul, ev_lss, ev_leq, ev_gtr, ev_geq, ev_eql, ev_neq, ev_seql, ev_sneq, ev_sleq, ev_slss, ev_not, ev_min, ev_max, asNat_nat, asNat_zero, asNat_one, asNat_two, asNat_three, vb_len, List.length_cons, List.length_nil, Nat.reduceAdd, Nat.reduceLeDiff, Nat.reduceMul, Int.reduceEq, Int.reduceLT, Int.reduceLE, Int.reduceNeg, Int.reduceAdd, Int.reduceSub, Nat.reduceLT, decide_true, decide_false, not_true_eq_false, not_false_eq_true, and_self, and_true, true_and, storeA, List.take_zero, List.drop_succ_cons, List.drop_zero, List.nil_append, List.append_nil, List.take_succ_cons, List.cons_append, cut_cons, cut_zero, cut_skip, tAt, hHide, hAt, upsAt, List.contains_cons, List.contains_nil, Nat.reduceBEq, Bool.or_true, Bool.true_or, Bool.or_false, Bool.false_or, Bool.or_self, Bool.and_true, Bool.true_and, Bool.and_false, Bool.false_and, beq_self_eq_true (α := Nat), Option.some_beq_some, Option.none_beq_some, Option.some_beq_none, Bool.false_eq_true, List.all_nil, touch, touchB, Nat.sub_self, List.range'_zero, Nat.add_sub_cancel_left, List.range'_one]
  termination_by v => v
  decreasing_by
    simp_wf
    have := List.sizeOf_lt_of_mem hx
    omega
end Go.Proofs.Bv
namespace Go.Proofs.Bv
open Go
theorem ok51 : codeOk 6 (Tryz.f51.body.getD .skip) = true := by kernel_rfl
theorem ok50 : codeOk 5 (Tryz.f50.body.getD .skip) = true := by kernel_rfl
theorem ok52 : codeOk 18 (Tryz.f52.body.getD .skip) = true := by kernel_rfl
theorem ok55 : codeOk 9 (Tryz.f55.body.getD .skip) = true := by kernel_rfl
theorem ok104 : codeOk 19 (Tryz.f104.body.getD .skip) = true := by kernel_rfl
theorem ok54 : codeOk 18 (Tryz.f54.body.getD .skip) = true := by kernel_rfl
set_option maxHeartbeats 4000000 in
set_option maxRecDepth 100000 in
theorem pc103 (G : Nat → Option (List AV)) (ng : Bool) (n : Nat) (ex : Int) (hl : (lim n).length ≤ 256) (hd : (digs n).length ≤ 2400) (hx : -4000 ≤ ex ∧ ex ≤ 4000) :
    Pc (Cf G) 103 [.sc (.bool ng), .psl (u32s (lim n)) (lim n).length, .sc (.int .i64 ex)] (encR (settleD ng n ex)) := by
  have h1 := pc160 G (lim n) (by omega)
  rw [natChk_lim hl] at h1
  have h2 := pc121 G ng n ex hl hd (by omega)
  have q1 : ¬ ex < -4000 := by omega
  have q2 : ¬ 4000 < ex := by omega
  have g1 := u32s_len1 (lim n)
  have g2 := u32s_pur (lim n)
  have g3 : (lim n).length * 4 ≤ 140737488355328 := by omega
  unfold encR encD at h2 ⊢
  generalize settleD ng n ex = r at *
  refine Pc_of (Gf_enter (C := Cf G) Tryz.func103 rfl ok103 (Nat.le_of_ble_eq_true rfl) ?_)
  simp only [Tryz.f103, Option.getD_some]
  repeat' first | refine w_op rfl rfl ?_ | refine x_p rfl ?_ | refine w_sr ?_ | refine st_nil ?_ | refine w_seq ?_ | refine st_region ?_ | refine st_block ?_ | refine w_cond ?_ | refine b_t ?_ | refine b_f ?_ | refine st_skip ?_ | refine st_exit ?_ | refine st_ret ?_ | refine st_onNormN ?_ | refine st_onNormE ?_ | refine st_onNormR ?_ | refine st_onExitN ?_ | refine st_onExitR ?_ | refine st_onExitS ?_ | refine st_onExitO (by decide) ?_ | refine g_t ?_ | refine g_f rfl ?_ | refine o_op rfl ?_ | refine w_wr ?_ | refine w_wn ?_ | refine d_c rfl ?_ | refine d_on rfl ?_ | refine d_op rfl ?_ | refine d_y ?_ | refine d_gd rfl ?_ | refine d_t ?_ | refine d_f ?_ | refine d_nil ?_ | refine w_dr rfl ?_ | refine d_q ?_ | refine n_0 rfl ?_ | refine d_n ?_ | refine k_p rfl rfl rfl rfl (h1) ?_ | refine k_p rfl rfl rfl rfl (h2) ?_ | refine k_o rfl rfl rfl ?_ | refine w_gd rfl ?_ | ((first | refine zE1 ?_ | refine w_cl rfl rfl ?_ | refine o_cl rfl ?_ | refine d_cl rfl ?_); (conv => arg 1; try simp only [go_sem, Nat.reduceEqDiff, reduceIte, Nat.reduceAdd, Nat.reduceLeDiff, Nat.reduceMul, Int.reduceEq, Int.reduceLT, Int.reduceLE, Int.reduceNeg, Int.reduceAdd, Int.reduceSub, Nat.reduceLT, Nat.reduceBEq, Nat.reduceSub, Nat.reducePow, q1, q2, orcClone, g1, g2, g3]); first | refine zE3 ?_ | refine zE2 ?_ | refine zE4 ?_ | refine zE5 ?_ | refine zE6 ?_ | refine zE7 ?_ | refine zE8 ?_) | (refine w_u false ?_; (conv => arg 1; reduce); refine zR1 ?_) | (refine b_s (fun hb => ?_) (fun hb => ?_) <;> ((try simp only [hn1, hn2, hn3, hn4] at hb); first | (exfalso; omega) | skip)) | (first | refine g_s (fun hb => ?_) (fun hb => ?_) | refine d_s (fun hb => ?_) (fun hb => ?_)) <;> ((try simp only [hn1, hn2] at hb); rw [hb]; try simp only [hn3, hn4] at hb)
  simp only [one1, frz_t, frz_a, mapF, frz_s, frz_l, Option.map_some, List.append_nil]
def intD (n : Nat) : Bool × Nat × Int := if n = 0 then (false, 0, 0) else (false, stripN n, (tzN n : Int))
theorem digs_small {n : Nat} (h : n ≤ 18446744073709551615) : (digs n).length ≤ 20 := digs_len_lt 20 n (by omega)
theorem settle_int {n : Nat} (h : n ≤ 18446744073709551615) : settleD false n 0 = (intD n, 0) := by
  have h1 := digs_small h
  have h2 := strip_le n
  have h3 := tz_le n
  unfold settleD intD
  split
  · rfl
  · rw [if_neg (by omega), if_neg (by omega)]
    simp
theorem from_lim {n : Nat} (h : n ≤ 18446744073709551615) : trimL [(n : Int) % 4294967296, (n : Int) / 4294967296] = lim n := by
  refine trim_lim (fun c hc => ?_) ?_
  · simp at hc; omega
  · simp only [nv]; omega
set_option maxHeartbeats 4000000 in
set_option maxRecDepth 100000 in
theorem pc101 (G : Nat → Option (List AV)) (n : Nat) (h : n ≤ 9223372036854775807) : Pc (Cf G) 101 [.sc (.int .i64 n)] (.agg (encD (intD n).1 (intD n).2.1 (intD n).2.2)) := by
  have h1 := pc159 G n (by omega)
  rw [from_lim (by omega)] at h1
  have hd := digs_small (n := n) (by omega)
  have h2 := pc121 G false n 0 (Nat.le_trans (lim_digs hd) (by omega)) (by omega) (by omega)
  rw [settle_int (by omega)] at h2
  unfold encR encD at h2
  unfold encD
  have w1 : IntKind.u64.wrap (n : Int) = n := IntWalk.u64_in _ (by omega)
  have q1 : ¬ (n : Int) < 0 := by omega
  generalize intD n = r at *
  refine Pc_of (Gf_enter (C := Cf G) Tryz.func101 rfl ok101 (Nat.le_of_ble_eq_true rfl) ?_)
  simp only [Tryz.f101, Option.getD_some]
  refine wC1 (wa w1 q1) (wa h1 (wa h2 trivial)) ?_
  simp only [one1, frz_a, mapF, frz_s, frz_l, Option.map_some, List.append_nil]
def numV (n : Nat) : JV := .mk 3 (intD n).1 (lim (intD n).2.1) (intD n).2.2 ⟨#[]⟩ [] []
def textV (s : ByteArray) : JV := .mk 4 false [] 0 s [] []
set_option maxRecDepth 100000 in
theorem pc51 (G : Nat → Option (List AV)) (n : Nat) (h : n ≤ 9223372036854775807) : Pc (Cf G) 51 [.sc (.int .i64 n)] (.agg (enc (numV n))) := by
  have h1 := pc101 G n h
  unfold encD at h1
  simp only [numV, enc]
  generalize intD n = r at *
  refine Pc_of (Gf_enter (C := Cf G) Tryz.func51 rfl ok51 (Nat.le_of_ble_eq_true rfl) ?_)
  simp only [Tryz.f51, Option.getD_some]
  refine wC1 trivial (wa h1 trivial) ?_
  simp only [one1, frz_a, frz_n, mapF, frz_s, frz_l, Option.map_some, List.append_nil]
  rfl
set_option maxRecDepth 100000 in
theorem pc50 (G : Nat → Option (List AV)) (s : ByteArray) : Pc (Cf G) 50 [.sc (.string s)] (.agg (enc (textV s))) := by
  simp only [textV, enc]
  refine Pc_of (Gf_enter (C := Cf G) Tryz.func50 rfl ok50 (Nat.le_of_ble_eq_true rfl) ?_)
  simp only [Tryz.f50, Option.getD_some]
  refine wB1 trivial ?_
  simp only [one1, frz_a, frz_n, mapF, frz_s, frz_l, Option.map_some, List.append_nil]
  rfl
def idxS : List ByteArray → ByteArray → Nat → Int
  | [], _, _ => -1
  | x :: r, s, i => if (s.toList == x.toList) = true then (i : Int) else idxS r s (i + 1)
theorem idxS_neg : (l : List ByteArray) → (s : ByteArray) → (i : Nat) → (0 ≤ idxS l s i ↔ s ∈ l)
  | [], s, i => by simp [idxS]
  | x :: r, s, i => by
    simp only [idxS, List.mem_cons]
    have e : ((s.toList == x.toList) = true) ↔ s = x := by
      rw [ByteArray.toList_eq, ByteArray.toList_eq, beq_iff_eq]
      constructor
      · intro h
        apply ByteArray.ext
        exact Array.toList_inj.1 h
      · rintro rfl; rfl
    split
    · rename_i h
      simp [e.1 h]
    · rename_i h
      have h' : ¬ s = x := fun q => h (e.2 q)
      rw [idxS_neg r s (i + 1)]
      simp [h']
set_option maxHeartbeats 2000000 in
theorem pc104 (G : Nat → Option (List AV)) (l : List ByteArray) (s : ByteArray) (hl : l.length ≤ 140737488355328) : Pc (Cf G) 104 [.psl (strs l) l.length, .sc (.string s)] (.sc (.int .i64 (idxS l s 0))) := by
  refine Pc_of (Gf_enter (C := Cf G) Tryz.func104 rfl ok104 (Nat.le_of_ble_eq_true rfl) ?_)
  simp only [Tryz.f104, Option.getD_some]
  refine wB1 trivial ?_
  refine Gc_loop_inv (fun m st => ∃ d r, l = d ++ r ∧ m = r.length ∧ idxS r s d.length = idxS l s 0 ∧ st.T 0 = .psl (strs l) l.length ∧ st.T 1 = .sc (.string s) ∧ st.T 7 = .sc (.int .i64 l.length) ∧ st.T 8 = .sc (.int .i64 d.length)) ?_ l.length _ ⟨[], l, rfl, rfl, rfl, ?_⟩
  · rintro m ⟨T, hh, n⟩ ⟨d, r, hdr, rfl, hix, t0, t1, t7, t8⟩
    simp only at t0 t1 t7 t8
    cases r with
    | nil =>
      have hge : ¬ (d.length : Int) < (l.length : Int) := by rw [hdr]; simp
      refine wB1 (wa t0 (wa t1 (wa t7 (wa t8 hge)))) ?_
      simp only [one1, frz_s, Option.map_some, ← hix, idxS]
    | cons x r =>
      have hlt : (d.length : Int) < (l.length : Int) := by rw [hdr]; simp; omega
      have hltn : d.length < l.length := by omega
      have hx := strs_at hdr
      have w1 : IntKind.i64.wrap ((d.length : Int) + 1) = (d.length : Int) + 1 := i64 (by omega) (by omega)
      cases he : (s.toList == x.toList)
      · refine wB1 (wa t0 (wa t1 (wa t7 (wa t8 (wa hlt (wa hltn (wa hx (wa w1 he)))))))) ?_
        refine ⟨r.length, by simp, d ++ [x], r, by simp [hdr], rfl, ?_, ?_⟩
        · rw [← hix, idxS, if_neg (by rw [he]; simp)]
          simp
        · simp [upd_ap, t0, t1, t7]
      · refine wB1 (wa t0 (wa t1 (wa t7 (wa t8 (wa hlt (wa hltn (wa hx (wa w1 he)))))))) ?_
        simp only [one1, frz_s, Option.map_some, ← hix, idxS, he, if_true]
  · simp [upd_ap, argsT]
theorem pc55 (G : Nat → Option (List AV)) (l : List ByteArray) (s : ByteArray) (hl : l.length ≤ 140737488355328) : Pc (Cf G) 55 [.psl (strs l) l.length, .sc (.string s)] (.sc (.bool (decide (0 ≤ idxS l s 0)))) := by
  have hc := pc104 G l s hl
  refine Pc_of (Gf_enter (C := Cf G) Tryz.func55 rfl ok55 (Nat.le_of_ble_eq_true rfl) ?_)
  simp only [Tryz.f55, Option.getD_some]
  refine wC1 trivial (wa hc trivial) ?_
  simp only [one1, frz_s, Option.map_some]
def chks : List JV → Int
  | [] => 0
  | x :: r => if chk x = 0 then chks r else chk x
set_option maxHeartbeats 2000000 in
theorem pc54 (G : Nat → Option (List AV)) (l : List JV) (hl : l.length * 112 ≤ 140737488355328) (hf : Fits l) : Pc (Cf G) 54 [.psl (encs l) l.length] (.sc (.int .i64 (chks l))) := by
  refine Pc_of (Gf_enter (C := Cf G) Tryz.func54 rfl ok54 (Nat.le_of_ble_eq_true rfl) ?_)
  simp only [Tryz.f54, Option.getD_some]
  refine wB1 trivial ?_
  refine Gc_loop_inv (fun m st => ∃ d r, l = d ++ r ∧ m = r.length ∧ chks r = chks l ∧ st.T 6 = .psl (encs l) l.length ∧ st.T 7 = .sc (.int .i64 l.length) ∧ st.T 8 = .sc (.int .i64 d.length)) ?_ l.length _ ⟨[], l, rfl, rfl, rfl, ?_⟩
  · rintro m ⟨T, h, n⟩ ⟨d, r, hdr, rfl, hch, t0, t7, t3⟩
    simp only at t0 t7 t3
    cases r with
    | nil =>
      have hge : ¬ (d.length : Int) < (l.length : Int) := by rw [hdr]; simp
      refine wB1 (wa t0 (wa t7 (wa t3 hge))) ?_
      simp only [one1, frz_s, Option.map_some, ← hch, chks]
    | cons x r =>
      have hlt : (d.length : Int) < (l.length : Int) := by rw [hdr]; simp; omega
      have hltn : d.length < l.length := by omega
      have hcut : cut (encs l) (d.length * 7) 7 = enc x := by rw [hdr]; exact cut_encs d x r
      have hle : d.length * 7 + 7 ≤ (encs l).length := by rw [encs_len]; omega
      have hx := pc44 G x (Fits_mem hf x (by rw [hdr]; simp))
      have w1 : IntKind.i64.wrap ((d.length : Int) + 1) = (d.length : Int) + 1 := i64 (by omega) (by omega)
      simp only [chks] at hch
      obtain ⟨k', n', c', e', t', l', ks'⟩ := x
      simp only [enc] at hx hcut
      by_cases h0 : chk (.mk k' n' c' e' t' l' ks') = 0
      · rw [if_pos h0] at hch
        rw [h0] at hx
        refine wC1 (wa t0 (wa t7 (wa t3 (wa hlt (wa hltn (wa hcut (wa hle w1))))))) (wa hx trivial) ?_
        refine ⟨r.length, by simp, d ++ [.mk k' n' c' e' t' l' ks'], r, by simp [hdr], rfl, hch, ?_⟩
        simp [upd_ap, tAt, t0, t7]
      · rw [if_neg h0] at hch
        rw [← hch]
        generalize chk (.mk k' n' c' e' t' l' ks') = q at *
        refine wC1 (wa t0 (wa t7 (wa t3 (wa hlt (wa hltn (wa hcut (wa hle (wa w1 h0)))))))) (wa hx trivial) ?_
        simp only [one1, frz_s, Option.map_some]
  · simp [upd_ap, argsT]
end Go.Proofs.Bv
namespace Go.Proofs.Bv
open Go
theorem ok17 : codeOk 46 (Tryz.f17.body.getD .skip) = true := by kernel_rfl
theorem dec_lim {ng : Bool} {cf : List Int} {ex : Int} (h : decChk ng cf ex = 0) (ha : Limbs cf) : ∃ n : Nat, cf = lim n ∧ (lim n).length ≤ 256 ∧ (digs n).length ≤ 2400 ∧ -4000 ≤ ex ∧ ex ≤ 4000 := by
  unfold decChk at h
  split at h
  · simp at h
  · rename_i h1
    have hc : natChk cf = 0 := by
      rcases Classical.em (natChk cf = 0) with q | q
      · exact q
      · exact absurd (Or.inl q) h1
    have h40 : ¬ 40 < (cf.length : Int) := fun q => h1 (Or.inr q)
    obtain ⟨ht, hl⟩ := TopOk_of_chk hc
    have hn := nv_nonneg ha
    have he : cf = lim (nv cf).toNat := canon_lim ⟨ha, ht⟩ (by omega)
    refine ⟨(nv cf).toNat, he, by rw [← he]; omega, ?_⟩
    split at h
    · rename_i h0
      have : cf = [] := by cases cf with
        | nil => rfl
        | cons x r => simp at h0; omega
      subst this
      split at h
      · simp at h
      · rename_i h2
        have : ex = 0 := by
          rcases Classical.em (ex = 0) with q | q
          · exact q
          · exact absurd (Or.inr q) h2
        subst this
        simp [nv, digs]
    · split at h
      · simp at h
      · rename_i h2
        unfold nDig at h2
        omega
set_option maxHeartbeats 4000000 in
set_option maxRecDepth 100000 in
theorem pc52 (G : Nat → Option (List AV)) (ng : Bool) (cf : List Int) (ex : Int) (h : decChk ng cf ex = 0) (ha : Limbs cf) :
    Pc (Cf G) 52 [.agg [.sc (.bool ng), .psl (u32s cf) cf.length, .sc (.int .i64 ex)]] (encR (settleD false (nv cf).toNat ex)) := by
  obtain ⟨n, he, hl, hd, hx⟩ := dec_lim h ha
  have h1 := pc102 G ng cf ex (by rw [he]; omega) ha
  rw [h] at h1
  have hn : (nv cf).toNat = n := by rw [he, nv_lim]; rfl
  rw [hn]
  have h2 := pc103 G false n ex hl hd hx
  rw [← he] at h2
  unfold encR encD at h2 ⊢
  generalize settleD false n ex = r at *
  refine Pc_of (Gf_enter (C := Cf G) Tryz.func52 rfl ok52 (Nat.le_of_ble_eq_true rfl) ?_)
  simp only [Tryz.f52, Option.getD_some]
  refine wC1 trivial (wa h1 (wa h2 trivial)) ?_
  simp only [one1, frz_t, frz_a, mapF, frz_s, frz_l, Option.map_some, List.append_nil]
def nullV : JV := .mk 0 false [] 0 ⟨#[]⟩ [] []
def withE (v : JV) (e : Int) : AV := .tup [.agg (enc v), .sc (.int .i64 e)]
def lenR (v : JV) : AV :=
  if ¬ chk v = 0 then withE nullV (chk v)
  else if v.kind = 1 ∨ v.kind = 2 then withE nullV 41
  else if v.kind = 3 then withE (.mk 3 (settleD false (nv v.coef).toNat v.exp).1.1 (lim (settleD false (nv v.coef).toNat v.exp).1.2.1) (settleD false (nv v.coef).toNat v.exp).1.2.2 ⟨#[]⟩ [] []) (settleD false (nv v.coef).toNat v.exp).2
  else if v.kind = 4 then withE (numV (cntS v.text)) 0
  else withE (numV v.list.length) 0
set_option maxHeartbeats 4000000 in
set_option maxRecDepth 100000 in
theorem pc17 (G : Nat → Option (List AV)) : (v : JV) → Fit v → (chk v = 0 → v.text.size * 8 ≤ 140737488355328) → (chk v = 0 → v.kind = 3 → decChk v.neg v.coef v.exp = 0) → Pc (Cf G) 17 [.agg (enc v)] (lenR v)
  | .mk k ng cf ex t l ks => fun hfit ht hd => by
    have h1 := pc44 G (.mk k ng cf ex t l ks) hfit
    have h2 : chk (.mk k ng cf ex t l ks) = 0 → k = 3 → _ := fun a b => pc52 G ng cf ex (hd a b) (fun c hc => hfit.1.coef c hc)
    have h3 := fun a => pc53 G t (ht a)
    have h4 := pc51 G (cntS t) (by have := cnt_le t; have := hfit.1.ntext; omega)
    have h5 := pc51 G l.length (by have := hfit.1.nlist; omega)
    simp only [lenR, withE, nullV, JV.kind, JV.coef, JV.exp, JV.text, JV.list]
    simp only [numV, enc] at h1 h4 h5 ⊢
    generalize chk (.mk k ng cf ex t l ks) = c at *
    by_cases hc : c = 0
    · subst hc
      by_cases hk1 : k = 1
      · subst hk1
        refine Pc_of (Gf_enter (C := Cf G) Tryz.func17 rfl ok17 (Nat.le_of_ble_eq_true rfl) ?_)
        simp only [Tryz.f17, Option.getD_some]
        refine wC1 trivial (wa h1 trivial) ?_
        all_goals (simp [one1, frz_t, frz_a, mapF, frz_s, frz_l, frz_n, encs, u32s, strs] <;> rfl)
      · by_cases hk2 : k = 2
        · subst hk2
          refine Pc_of (Gf_enter (C := Cf G) Tryz.func17 rfl ok17 (Nat.le_of_ble_eq_true rfl) ?_)
          simp only [Tryz.f17, Option.getD_some]
          refine wC1 trivial (wa h1 trivial) ?_
          all_goals (simp [one1, frz_t, frz_a, mapF, frz_s, frz_l, frz_n, encs, u32s, strs] <;> rfl)
        · by_cases hk3 : k = 3
          · subst hk3
            have h2 := h2 rfl rfl
            unfold encR encD at h2
            generalize settleD false (nv cf).toNat ex = r at *
            refine Pc_of (Gf_enter (C := Cf G) Tryz.func17 rfl ok17 (Nat.le_of_ble_eq_true rfl) ?_)
            simp only [Tryz.f17, Option.getD_some]
            refine wC1 trivial (wa h1 (wa h2 trivial)) ?_
            all_goals (simp [one1, frz_t, frz_a, mapF, frz_s, frz_l, frz_n, encs, u32s, strs] <;> rfl)
          · by_cases hk4 : k = 4
            · subst hk4
              have h3 := h3 rfl
              refine Pc_of (Gf_enter (C := Cf G) Tryz.func17 rfl ok17 (Nat.le_of_ble_eq_true rfl) ?_)
              simp only [Tryz.f17, Option.getD_some]
              refine wC1 trivial (wa h1 (wa h3 (wa h4 trivial))) ?_
              all_goals (simp [one1, frz_t, frz_a, mapF, frz_s, frz_l, frz_n, encs, u32s, strs] <;> rfl)
            · refine Pc_of (Gf_enter (C := Cf G) Tryz.func17 rfl ok17 (Nat.le_of_ble_eq_true rfl) ?_)
              simp only [Tryz.f17, Option.getD_some]
              refine wC1 (wa hk1 (wa hk2 (wa hk3 hk4))) (wa h1 (wa h5 trivial)) ?_
              all_goals (simp [one1, frz_t, frz_a, mapF, frz_s, frz_l, frz_n, encs, u32s, strs, hk1, hk2, hk3, hk4] <;> rfl)
    · refine Pc_of (Gf_enter (C := Cf G) Tryz.func17 rfl ok17 (Nat.le_of_ble_eq_true rfl) ?_)
      simp only [Tryz.f17, Option.getD_some]
      refine wC1 hc (wa h1 trivial) ?_
      all_goals (simp [one1, frz_t, frz_a, mapF, frz_s, frz_l, frz_n, encs, u32s, strs, hc] <;> rfl)
end Go.Proofs.Bv
namespace Go.Proofs.Bv
open Go
theorem ok189 : codeOk 26 (Tryz.f189.body.getD .skip) = true := by kernel_rfl
theorem ok131 : codeOk 22 (Tryz.f131.body.getD .skip) = true := by kernel_rfl
theorem idxS_rng : (l : List ByteArray) → (s : ByteArray) → (i : Nat) → idxS l s i = -1 ∨ ((i : Int) ≤ idxS l s i ∧ idxS l s i < (i : Int) + l.length)
  | [], s, i => .inl rfl
  | x :: r, s, i => by
    simp only [idxS, List.length_cons]
    split
    · right; omega
    · rcases idxS_rng r s (i + 1) with h | h
      · exact .inl h
      · right; omega
def getV (ks : List ByteArray) (l : List JV) (s : ByteArray) : Option JV := if 0 ≤ idxS ks s 0 then l[(idxS ks s 0).toNat]? else none
def getR : Option JV → AV
  | some x => .tup [.agg (enc x), .sc (.bool true)]
  | none => .tup [.agg (enc nullV), .sc (.bool false)]
set_option maxHeartbeats 4000000 in
set_option maxRecDepth 100000 in
theorem pc189 (G : Nat → Option (List AV)) (ng : Bool) (cf : List Int) (ex : Int) (t : ByteArray) (l : List JV) (ks : List ByteArray) (s : ByteArray) (hk : ks.length ≤ 140737488355328) (hl : ks.length = l.length) :
    Pc (Cf G) 189 [.agg (enc (.mk 6 ng cf ex t l ks)), .sc (.string s)] (.tup [.sc (.int .i64 (idxS ks s 0)), .sc (.bool (decide (0 ≤ idxS ks s 0)))]) := by
  have h1 := pc104 G ks s hk
  have hr := idxS_rng ks s 0
  simp only [enc]
  generalize idxS ks s 0 = i at *
  by_cases h0 : 0 ≤ i
  · have hi : i < (l.length : Int) := by omega
    rw [decide_eq_true h0]
    refine Pc_of (Gf_enter (C := Cf G) Tryz.func189 rfl ok189 (Nat.le_of_ble_eq_true rfl) ?_)
    simp only [Tryz.f189, Option.getD_some]
    refine wC1 (wa h0 hi) (wa h1 trivial) ?_
    simp only [one1, frz_t, mapF, frz_s, Option.map_some, List.append_nil]
  · rw [decide_eq_false h0]
    refine Pc_of (Gf_enter (C := Cf G) Tryz.func189 rfl ok189 (Nat.le_of_ble_eq_true rfl) ?_)
    simp only [Tryz.f189, Option.getD_some]
    refine wC1 h0 (wa h1 trivial) ?_
    simp only [one1, frz_t, mapF, frz_s, Option.map_some, List.append_nil]
set_option maxHeartbeats 4000000 in
set_option maxRecDepth 100000 in
theorem pc131 (G : Nat → Option (List AV)) (ng : Bool) (cf : List Int) (ex : Int) (t : ByteArray) (l : List JV) (ks : List ByteArray) (s : ByteArray) (hv : Fit (.mk 6 ng cf ex t l ks)) (hl : ks.length = l.length) :
    Pc (Cf G) 131 [.agg (enc (.mk 6 ng cf ex t l ks)), .sc (.string s)] (getR (getV ks l s)) := by
  have h1 := pc189 G ng cf ex t l ks s (by have := hv.1.nkeys; omega) hl
  have hr := idxS_rng ks s 0
  unfold getV
  simp only [enc] at h1 ⊢
  generalize idxS ks s 0 = i at *
  by_cases h0 : 0 ≤ i
  · rw [decide_eq_true h0] at h1
    rw [if_pos h0]
    obtain ⟨k, rfl⟩ : ∃ k : Nat, i = k := ⟨i.toNat, by omega⟩
    have hk : k < l.length := by omega
    rw [Int.toNat_natCast, List.getElem?_eq_getElem hk]
    have hx : l[k] ∈ l := List.getElem_mem hk
    have hc : l = l.take k ++ l[k] :: l.drop (k + 1) := by rw [← List.drop_eq_getElem_cons hk, List.take_append_drop]
    obtain ⟨x, r', hr', _, hcut, hle⟩ := split_at hc (by rw [List.length_take]; omega)
    simp only [List.cons.injEq] at hr'
    obtain ⟨hx', _⟩ := hr'
    rw [List.length_take, Nat.min_eq_left (by omega)] at hcut hle
    rw [hx'] at hx ⊢
    have h2 := pc63 G x (Fits_mem hv.2 x hx)
    obtain ⟨k1, g1, c1, e1, t1, l1, s1⟩ := x
    simp only [enc] at hcut h2
    simp only [getR, enc]
    refine Pc_of (Gf_enter (C := Cf G) Tryz.func131 rfl ok131 (Nat.le_of_ble_eq_true rfl) ?_)
    simp only [Tryz.f131, Option.getD_some]
    refine wC1 (wa hk (wa hcut hle)) (wa h1 (wa h2 trivial)) ?_
    simp only [one1, frz_t, frz_a, mapF, frz_s, frz_l, Option.map_some, List.append_nil]
  · rw [decide_eq_false h0] at h1
    rw [if_neg h0]
    simp only [getR, nullV, enc]
    refine Pc_of (Gf_enter (C := Cf G) Tryz.func131 rfl ok131 (Nat.le_of_ble_eq_true rfl) ?_)
    simp only [Tryz.f131, Option.getD_some]
    refine wC1 trivial (wa h1 trivial) ?_
    simp only [one1, frz_t, frz_a, mapF, frz_s, frz_n, Option.map_some, List.append_nil]
    rfl
end Go.Proofs.Bv
namespace Go.Proofs.Bv
open Go
theorem ok337 : codeOk 23 (Tryz.f337.body.getD .skip) = true := by kernel_rfl
theorem ok284 : codeOk 12 (Tryz.f284.body.getD .skip) = true := by kernel_rfl
theorem ok287 : codeOk 8 (Tryz.f287.body.getD .skip) = true := by kernel_rfl
theorem ok283 : codeOk 19 (Tryz.f283.body.getD .skip) = true := by kernel_rfl
theorem ok227 : codeOk 6 (Tryz.f227.body.getD .skip) = true := by kernel_rfl
theorem ok286 : codeOk 8 (Tryz.f286.body.getD .skip) = true := by kernel_rfl
theorem ok226 : codeOk 33 (Tryz.f226.body.getD .skip) = true := by kernel_rfl
def Sn (h : Heap) (i : Nat) (x : AV) (v : Nat) : Prop := (x = .psl (u32s (lim v)) (lim v).length ∧ True) ∨ (x = .osl i 0 (lim v).length ∧ ∃ z, h i = some (.cells (u32s (lim v)) 1 z))
theorem Sn_shut {h : Heap} {i : Nat} {x : AV} {v : Nat} (l : List Nat) (hs : Sn h i x v) : Sn (shutIds h l) i x v := by
  rcases hs with hs | ⟨h1, z, h2⟩
  · exact .inl hs
  · refine .inr ⟨h1, ?_⟩
    unfold shutIds
    split
    · exact ⟨true, by rw [h2]; rfl⟩
    · exact ⟨z, h2⟩
theorem pow_odd {a b m n : Nat} (h : a * b ^ m = n) (ho : m % 2 = 1) : a * b * (b * b) ^ (m / 2) = n := by
  rw [← h, ← Nat.pow_two, ← Nat.pow_mul, Nat.mul_assoc, ← Nat.pow_succ', show (2 * (m / 2)).succ = m by omega]
theorem pow_even {a b m n : Nat} (h : a * b ^ m = n) (ho : ¬ m % 2 = 1) : a * (b * b) ^ (m / 2) = n := by
  rw [← h, ← Nat.pow_two, ← Nat.pow_mul, show 2 * (m / 2) = m by omega]
set_option maxHeartbeats 8000000 in
set_option maxRecDepth 100000 in
theorem pc337 (G : Nat → Option (List AV)) (e : Nat) (he : e ≤ 2400) : Pc (Cf G) 337 [.sc (.int .i64 e)] (lsl (10 ^ e)) := by
  obtain ⟨K, hK⟩ : ∃ K : Nat, K = 2401 := ⟨_, rfl⟩
  have hpe : 10 ^ e < 10 ^ K := Nat.pow_lt_pow_right (by decide) (by omega)
  refine Pc_of (Gf_enter (C := Cf G) Tryz.func337 rfl ok337 (Nat.le_of_ble_eq_true rfl) ?_)
  simp only [Tryz.f337, Option.getD_some]
  refine wB1 trivial ?_
  refine Gc_loop_inv (fun m st => ∃ a b : Nat, m ≤ 2400 ∧ 1 ≤ a ∧ 1 ≤ b ∧ a * b ^ m = 10 ^ e ∧ st.T 0 = .sc (.int .i64 m) ∧ Sn st.h 0 (st.T 3) a ∧ Sn st.h 1 (st.T 4) b) ?_ e _ ⟨1, 10, he, by decide, by decide, Nat.one_mul _, rfl, .inr ⟨?_, false, ?_⟩, .inr ⟨?_, false, ?_⟩⟩
  · rintro m ⟨T, h, n⟩ ⟨a, b, hm2, ha, hb, hab, t0, s3, s4⟩
    simp only at t0 s3 s4
    have g1 := u32s_len1 (lim a)
    have g2 := u32s_pur (lim a)
    have g3 := u32s_len1 (lim b)
    have g4 := u32s_pur (lim b)
    by_cases h0 : m = 0
    · subst h0
      have e1 : a = 10 ^ e := by simpa using hab
      subst e1
      have q1 : ¬ (0 : Int) < ((0 : Nat) : Int) := by omega
      rcases s3 with ⟨t3, -⟩ | ⟨t3, z3, q3⟩
      · refine wB1 (wa t0 (wa t3 q1)) ?_
        simp only [one1, frz_l, Option.map_some, lsl]
      · refine wB1 (wa t0 (wa t3 (wa q1 q3))) ?_
        simp only [one1]
        rw [frz_w q3 g1 g2]
        rfl
    · have q1 : (0 : Int) < (m : Int) := by omega
      have hbm : b ≤ 10 ^ e := by
        rw [← hab]
        exact Nat.le_trans (Nat.le_trans (Nat.le_of_eq (Nat.pow_one b).symm) (Nat.pow_le_pow_right hb (by omega))) (Nat.le_mul_of_pos_left _ ha)
      have ham : a ≤ 10 ^ e := by
        rw [← hab]
        exact Nat.le_mul_of_pos_right _ (Nat.pow_pos hb)
      have m1 := pcMul G a b K K (by omega) (by omega) (by omega)
      have m2 := pcMul G b b K K (by omega) (by omega) (by omega)
      unfold lsl at m1 m2
      have w2 : (m : Int).tdiv 2 = ((m / 2 : Nat) : Int) := by rw [Int.tdiv_eq_ediv_of_nonneg (by omega)]; omega
      have w3 : IntKind.i64.wrap ((m / 2 : Nat) : Int) = ((m / 2 : Nat) : Int) := i64 (by omega) (by omega)
      have p1 : 1 ≤ a * b := Nat.mul_pos ha hb
      have p2 : 1 ≤ b * b := Nat.mul_pos hb hb
      have u3 := s3
      have u4 := s4
      by_cases hodd : m % 2 = 1
      · have w1 : (m : Int).tmod 2 = 1 := by rw [Int.tmod_eq_emod_of_nonneg (by omega)]; omega
        have hpo := pow_odd hab hodd
        by_cases h1 : m = 1
        · have q2 : ¬ (1 : Int) < (m : Int) := by omega
          have e0 : m / 2 = 0 := by omega
          rw [e0] at hpo w2 w3
          rcases s3 with ⟨t3, q3⟩ | ⟨t3, z3, q3⟩ <;> rcases s4 with ⟨t4, q4⟩ | ⟨t4, z4, q4⟩
          all_goals
            refine wF1 (wa t0 (wa t3 (wa t4 (wa q3 (wa q4 (wa q1 (wa q2 (wa w1 (wa w2 (wa w3 (wa g1 (wa g2 (wa g3 g4))))))))))))) (wa m1 trivial) ?_
            exact ⟨0, by omega, a * b, b, by omega, p1, hb, by simpa using hpo, rfl, .inl ⟨rfl, trivial⟩, by first | exact Sn_shut _ u4 | exact Sn_shut [] u4⟩
        · have q2 : (1 : Int) < (m : Int) := by omega
          rcases s3 with ⟨t3, q3⟩ | ⟨t3, z3, q3⟩ <;> rcases s4 with ⟨t4, q4⟩ | ⟨t4, z4, q4⟩
          all_goals
            have sB := q4
            have sC := q4
            try replace sB : shutIds h [1] 1 = some (.cells (u32s (lim b)) 1 true) := by simp [shutIds, q4, shutBlk]
            try replace sC : shutIds h [0, 1] 1 = some (.cells (u32s (lim b)) 1 true) := by simp [shutIds, q4, shutBlk]
            refine wF1 (wa t0 (wa t3 (wa t4 (wa q3 (wa q4 (wa q1 (wa q2 (wa w1 (wa w2 (wa w3 (wa g1 (wa g2 (wa g3 (wa g4 (wa sB sC))))))))))))))) (wa m1 (wa m2 trivial)) ?_
            exact ⟨m / 2, by omega, a * b, b * b, by omega, p1, p2, hpo, rfl, .inl ⟨rfl, trivial⟩, .inl ⟨rfl, trivial⟩⟩
      · have w1 : (m : Int).tmod 2 = 0 := by rw [Int.tmod_eq_emod_of_nonneg (by omega)]; omega
        have q2 : (1 : Int) < (m : Int) := by omega
        have hpo := pow_even hab hodd
        rcases s3 with ⟨t3, q3⟩ | ⟨t3, z3, q3⟩ <;> rcases s4 with ⟨t4, q4⟩ | ⟨t4, z4, q4⟩
        all_goals
          refine wF1 (wa t0 (wa t3 (wa t4 (wa q3 (wa q4 (wa q1 (wa q2 (wa w1 (wa w2 (wa w3 (wa g1 (wa g2 (wa g3 g4))))))))))))) (wa m2 trivial) ?_
          exact ⟨m / 2, by omega, a, b * b, by omega, ha, p2, hpo, rfl, by first | exact Sn_shut _ u3 | exact Sn_shut [] u3, .inl ⟨rfl, trivial⟩⟩
  · rw [lim_one (by omega) (by omega)]; rfl
  · rw [lim_one (by omega) (by omega)]; rfl
  · rw [lim_one (by omega) (by omega)]; rfl
  · rw [lim_one (by omega) (by omega)]; rfl
end Go.Proofs.Bv
namespace Go.Proofs.Bv
open Go
theorem ok13 : codeOk 4 (Tryz.f13.body.getD .skip) = true := by kernel_rfl
theorem pc13 (G : Nat → Option (List AV)) (e : Int) (he : -9223372036854775808 ≤ e ∧ e ≤ 9223372036854775807) : Pc (Cf G) 13 [.sc (.int .i64 e)] (.sc (.int .i64 e)) := by
  have w := i64 he.1 he.2
  refine Pc_of (Gf_enter (C := Cf G) Tryz.func13 rfl ok13 (Nat.le_of_ble_eq_true rfl) ?_)
  simp only [Tryz.f13, Option.getD_some]
  refine wB1 w ?_
  simp only [one1, frz_s, Option.map_some]
theorem chkFrom_rng (s : ByteArray) (p : Nat) : 0 ≤ (chkFrom s p).2 ∧ (chkFrom s p).2 ≤ 100 := by
  unfold chkFrom
  split
  · rename_i h
    have := wide_rng s p h
    split
    · simp
    · exact chkFrom_rng s (p + wideAt s p)
  · simp
termination_by s.size - p
theorem letters_rng (s : ByteArray) : 0 ≤ letters s ∧ letters s ≤ 100 := by
  have := chkFrom_rng s 0
  unfold letters
  split
  · split <;> omega
  · omega
theorem textsK_rng : (ks : List ByteArray) → (e : Int) → 0 ≤ e ∧ e ≤ 100 → 0 ≤ textsK ks e ∧ textsK ks e ≤ 100
  | [], e, h => h
  | k :: r, e, h => by
    have := letters_rng k
    simp only [textsK]
    refine textsK_rng r _ ?_
    unfold or2
    split <;> omega
theorem own_rng (v : JV) : 0 ≤ own v ∧ own v ≤ 100 := by
  obtain ⟨k, ng, cf, ex, t, l, ks⟩ := v
  have := textsK_rng ks (letters t) (letters_rng t)
  simp only [own, texts]
  repeat' split
  all_goals omega
theorem firstErr_rng : (l : List JV) → 0 ≤ firstErr l ∧ firstErr l ≤ 100
  | [] => by simp [firstErr]
  | x :: r => by
    have := own_rng x
    have := firstErr_rng r
    simp only [firstErr]
    split <;> omega
theorem chk_rng (v : JV) : 0 ≤ chk v ∧ chk v ≤ 100 := by
  have := firstErr_rng (pre v)
  unfold chk
  repeat' split
  all_goals omega
end Go.Proofs.Bv
namespace Go.Proofs.Bv
open Go
set_option maxRecDepth 100000 in
theorem pc284 (G : Nat → Option (List AV)) (e : Nat) (he : e ≤ 2400) : Pc (Cf G) 284 [.sc (.int .i64 e)] (.tup [lsl (10 ^ e), .sc (.int .i64 0)]) := by
  have h1 := pc337 G e he
  have q1 : ¬ (e : Int) < 0 := by omega
  have q2 : ¬ (2400 : Int) < (e : Int) := by omega
  unfold lsl at h1 ⊢
  refine Pc_of (Gf_enter (C := Cf G) Tryz.func284 rfl ok284 (Nat.le_of_ble_eq_true rfl) ?_)
  simp only [Tryz.f284, Option.getD_some]
  refine wC1 (wa q1 q2) (wa h1 trivial) ?_
  simp only [one1, frz_t, mapF, frz_s, frz_l, Option.map_some, List.append_nil]
set_option maxRecDepth 100000 in
theorem pc287 (G : Nat → Option (List AV)) (n : Nat) (h : (lim n).length ≤ 256) : Pc (Cf G) 287 [lsl n] (.tup [lsl n, .sc (.int .i64 0)]) := by
  have q1 : ¬ (256 : Int) < ((lim n).length : Int) := by omega
  unfold lsl
  refine Pc_of (Gf_enter (C := Cf G) Tryz.func287 rfl ok287 (Nat.le_of_ble_eq_true rfl) ?_)
  simp only [Tryz.f287, Option.getD_some]
  refine wB1 q1 ?_
  simp only [one1, frz_t, mapF, frz_s, frz_l, Option.map_some, List.append_nil]
set_option maxRecDepth 100000 in
theorem pc283 (G : Nat → Option (List AV)) (a b : Nat) (ha : (lim a).length ≤ 256) (hb : (lim b).length ≤ 256) (hab : (lim (a * b)).length ≤ 256) : Pc (Cf G) 283 [lsl a, lsl b] (.tup [lsl (a * b), .sc (.int .i64 0)]) := by
  have h1 := pc279 G (lim a) (lim b) (by omega) (by omega)
  rw [natChk_lim ha, natChk_lim hb] at h1
  have h2 := pc180 G (lim a) (lim b) (by omega) (lim_limbs a) (lim_limbs b)
  rw [mul_lim] at h2
  have h3 := pc287 G (a * b) hab
  unfold lsl at h3 ⊢
  have h1' : Pc (Cf G) 279 [.psl (u32s (lim a)) (lim a).length, .psl (u32s (lim b)) (lim b).length] (.sc (.int .i64 0)) := h1
  refine Pc_of (Gf_enter (C := Cf G) Tryz.func283 rfl ok283 (Nat.le_of_ble_eq_true rfl) ?_)
  simp only [Tryz.f283, Option.getD_some]
  refine wC1 trivial (wa h1' (wa h2 (wa h3 trivial))) ?_
  simp only [one1, frz_t, mapF, frz_s, frz_l, Option.map_some, List.append_nil]
theorem pc227 (G : Nat → Option (List AV)) (n : Nat) (e : Int) : Pc (Cf G) 227 [lsl n, .sc (.int .i64 e)] (lsl n) := by
  unfold lsl
  refine Pc_of (Gf_enter (C := Cf G) Tryz.func227 rfl ok227 (Nat.le_of_ble_eq_true rfl) ?_)
  simp only [Tryz.f227, Option.getD_some]
  refine wB1 trivial ?_
  simp only [one1, frz_l, Option.map_some]
theorem pc286 (G : Nat → Option (List AV)) (e : Nat) (he : e ≤ 2400) : Pc (Cf G) 286 [.sc (.int .i64 e)] (lsl (10 ^ e)) := by
  have h1 := pc284 G e he
  have h2 := pc227 G (10 ^ e) 0
  unfold lsl at h1 h2 ⊢
  refine Pc_of (Gf_enter (C := Cf G) Tryz.func286 rfl ok286 (Nat.le_of_ble_eq_true rfl) ?_)
  simp only [Tryz.f286, Option.getD_some]
  refine wC1 trivial (wa h1 (wa h2 trivial)) ?_
  simp only [one1, frz_l, Option.map_some]
theorem lim_mul {n e : Nat} (hn : n < 10 ^ 20) (he : e ≤ 20) : (lim n).length ≤ 256 ∧ (lim (10 ^ e)).length ≤ 256 ∧ (lim (n * 10 ^ e)).length ≤ 256 := by
  have h1 : 10 ^ e ≤ 10 ^ 20 := Nat.pow_le_pow_right (by decide) he
  have h2 : n * 10 ^ e < 10 ^ 40 := Nat.lt_of_lt_of_le (Nat.mul_lt_mul_of_lt_of_le hn h1 (Nat.pow_pos (by decide))) (by decide)
  have a1 := lim_len 20 n hn
  have a2 := lim_len 21 (10 ^ e) (by omega)
  have a3 := lim_len 40 _ h2
  omega
set_option maxHeartbeats 4000000 in
set_option maxRecDepth 100000 in
theorem pc226 (G : Nat → Option (List AV)) (ng : Bool) (n e : Nat) (he : e ≤ 20) (hn : n < 10 ^ 20) :
    Pc (Cf G) 226 [.agg (encD ng n e)] (.tup [lsl (n * 10 ^ e), .psl [] 0, .sc (.int .i64 0)]) := by
  have h1 := pc286 G e (by omega)
  obtain ⟨b1, b2, b3⟩ := lim_mul hn he
  have h2 := pc283 G n (10 ^ e) b1 b2 b3
  have h3 := pc227 G (n * 10 ^ e) 0
  have q1 : (0 : Int) ≤ (e : Int) := by omega
  unfold lsl at h1 h2 h3 ⊢
  unfold encD
  refine Pc_of (Gf_enter (C := Cf G) Tryz.func226 rfl ok226 (Nat.le_of_ble_eq_true rfl) ?_)
  simp only [Tryz.f226, Option.getD_some]
  refine wC1 q1 (wa h1 (wa h2 (wa h3 trivial))) ?_
  simp only [one1, frz_t, mapF, frz_s, frz_l, frz_n, Option.map_some, List.append_nil]
  try rfl
end Go.Proofs.Bv
namespace Go.Proofs.Bv
open Go
theorem ok164 : codeOk 43 (Tryz.f164.body.getD .skip) = true := by kernel_rfl
theorem ok106 : codeOk 9 (Tryz.f106.body.getD .skip) = true := by kernel_rfl
theorem ok105 : codeOk 28 (Tryz.f105.body.getD .skip) = true := by kernel_rfl
theorem ok56 : codeOk 5 (Tryz.f56.body.getD .skip) = true := by kernel_rfl
theorem ok163 : codeOk 53 (Tryz.f163.body.getD .skip) = true := by kernel_rfl
theorem ok224 : codeOk 40 (Tryz.f224.body.getD .skip) = true := by kernel_rfl
theorem ok225 : codeOk 4 (Tryz.f225.body.getD .skip) = true := by kernel_rfl
theorem ok285 : codeOk 19 (Tryz.f285.body.getD .skip) = true := by kernel_rfl
theorem nDig_lim (n : Nat) : nDig (lim n) = ((digs n).length : Int) := by
  unfold nDig
  rw [nv_lim]
  rfl
theorem int_facts {m : Nat} (hm : m ≤ 9223372036854775807) : (intD m).1 = false ∧ (intD m).2.1 < 10 ^ 20 ∧ (∃ e : Nat, (intD m).2.2 = (e : Int) ∧ e ≤ 20 ∧ (intD m).2.1 * 10 ^ e = m) ∧ decChk (intD m).1 (lim (intD m).2.1) (intD m).2.2 = 0 := by
  unfold intD
  by_cases h0 : m = 0
  · subst h0
    refine ⟨by simp, by simp, ⟨0, by simp⟩, ?_⟩
    simp [lim_zero, decChk, natChk]
  · rw [if_neg h0]
    obtain ⟨h1, h2, h3⟩ := strip_digs m
    have hd := digs_small (n := m) (by omega)
    have hs := strip_ne (n := m) (by omega)
    have hle : stripN m ≤ m := by
      conv => rhs; rw [h3]
      exact Nat.le_mul_of_pos_right _ (Nat.pow_pos (by decide))
    have hl : (lim (stripN m)).length ≤ 20 := lim_len 20 _ (by omega)
    refine ⟨rfl, by simp only; omega, ⟨tzN m, rfl, by omega, h3.symm⟩, ?_⟩
    have hln : ¬ ((lim (stripN m)).length : Int) = 0 := by
      have := mt (lim_nil (n := stripN m)).1 (by omega)
      have := List.length_pos_iff.2 this
      omega
    simp only [decChk]
    rw [natChk_lim (by omega), if_neg (by omega), if_neg hln, nv_lim, nDig_lim, if_neg (by omega)]
set_option maxHeartbeats 4000000 in
set_option maxRecDepth 100000 in
theorem pc106 (G : Nat → Option (List AV)) (m : Nat) (hm : m ≤ 9223372036854775807) : Pc (Cf G) 106 [.agg (encD (intD m).1 (intD m).2.1 (intD m).2.2)] (.tup [.agg (encD (intD m).1 (intD m).2.1 (intD m).2.2), .sc (.int .i64 0)]) := by
  obtain ⟨f1, f2, ⟨e, f3, f4, f5⟩, f6⟩ := int_facts hm
  rw [f1, f3] at f6 ⊢
  have h1 := pc102 G false (lim (intD m).2.1) e (by have := lim_len 20 _ f2; omega) (lim_limbs _)
  rw [f6] at h1
  have h2 := pc226 G false (intD m).2.1 e f4 f2
  rw [f5] at h2
  have hd := digs_small (n := m) (by omega)
  have h3 := pc103 G false m 0 (Nat.le_trans (lim_digs hd) (by omega)) (by omega) (by omega)
  rw [settle_int (by omega)] at h3
  unfold encR at h3
  rw [f1, f3] at h3
  unfold lsl at h2
  unfold encD at h2 h3 ⊢
  generalize (intD m).2.1 = a at *
  refine Pc_of (Gf_enter (C := Cf G) Tryz.func106 rfl ok106 (Nat.le_of_ble_eq_true rfl) ?_)
  simp only [Tryz.f106, Option.getD_some]
  refine wC1 trivial (wa h1 trivial) ?_
  refine k_w rfl rfl ?_
  refine Gf_enter (C := Cf G) Tryz.func164 rfl ok164 (Nat.le_of_ble_eq_true rfl) ?_
  simp only [Tryz.f164, Option.getD_some]
  refine wC1 trivial (wa h1 (wa h2 (wa h3 trivial))) ?_
  refine n_1 (Nat.le_of_ble_eq_true rfl) rfl ?_
  refine wB1 trivial ?_
  simp only [one1, frz_t, frz_a, mapF, frz_s, frz_l, frz_n, Option.map_some, List.append_nil]
theorem gf285 (G : Nat → Option (List AV)) (l : List Int) (hl : l.length ≤ 140737488355328) (b : Nat) (I : Nat → Heap → Nat → Prop) (Q : AV → Heap → Nat → Prop)
    (hround : ∀ k x h n (K : AV → Heap → Nat → Prop), I (k + 1) h n → l[k]? = some x → (∀ h' n', n ≤ n' → I k h' n' → K (.sc (.bool true)) h' n') → (∀ h' n', n ≤ n' → Q (.tup []) h' n' → K (.sc (.bool false)) h' n') →
      Wk (Cf G) (.fn (.yield b) []) [.sc (.int .i64 k), .sc (.int .u32 x)] h n K)
    (hend : ∀ h n, I 0 h n → Q (.tup []) h n) {h : Heap} {n : Nat} (hI : I l.length h n) : Gf (Cf G) 285 [.fn (.yield b) [], .pptr [.psl (u32s l) l.length] 0] h n Q := by
  have w0 : IntKind.i64.wrap ((l.length : Int) - 1) = (l.length : Int) - 1 := i64 (by omega) (by omega)
  refine Gf_enter (C := Cf G) Tryz.func285 rfl ok285 (Nat.le_of_ble_eq_true rfl) ?_
  simp only [Tryz.f285, Option.getD_some]
  refine wB1 w0 ?_
  refine Gc_loop_inv (fun m st => m ≤ l.length ∧ st.T 0 = .fn (.yield b) [] ∧ st.T 1 = .pptr [.psl (u32s l) l.length] 0 ∧ st.T 3 = .sc (.int .i64 ((m : Int) - 1)) ∧ I m st.h st.n) ?_ l.length _ ⟨Nat.le_refl _, ?_⟩
  · rintro m ⟨T, h, n⟩ ⟨hm, h0, h1, h3, hI⟩
    simp only at h0 h1 h3 hI
    cases m with
    | zero =>
      have hge : ¬ (0 : Int) ≤ ((0 : Nat) : Int) - 1 := by omega
      refine wB1 (wa h0 (wa h1 (wa h3 hge))) ?_
      exact hend _ _ hI
    | succ k =>
      have e0 : ((k + 1 : Nat) : Int) - 1 = (k : Int) := by omega
      rw [e0] at h3
      have hge : (0 : Int) ≤ (k : Int) := by omega
      have hlt : k < l.length := by omega
      obtain ⟨x, hx⟩ : ∃ x, l[k]? = some x := ⟨l[k]'(by omega), List.getElem?_eq_getElem (by omega)⟩
      have hx' := u32s_at hx
      have wk : IntKind.i64.wrap ((k : Int) - 1) = (k : Int) - 1 := i64 (by omega) (by omega)
      refine wB1 (wa h0 (wa h1 (wa h3 (wa hge (wa hlt hx'))))) ?_
      refine st_wk rfl rfl (by simp only [vop, val, argsT, upd_ap, Nat.reduceEqDiff, if_true, if_false, ite_true, ite_false, reduceIte, loadAt, loadA, AV.cells, AV.one, List.all_cons, List.all_nil, ofV, ofCell, plain, List.getElem?_cons_zero, List.getElem?_cons_succ, List.getElem?_toArray, Option.getD_some, Bool.not_true, Bool.not_false, Bool.false_eq_true, Bool.and_true, Bool.true_and, Bool.and_self, Nat.zero_add, Option.map_some, Option.bind_some, List.map_cons, List.map_nil, ev_add, ev_sub, ev_mul, ev_lss, ev_leq, ev_gtr, ev_geq, ev_eql, ev_neq, ev_seql, ev_sneq, ev_sleq, ev_slss, ev_not, ev_min, ev_max, asNat_nat, asNat_zero, asNat_one, asNat_two, asNat_three, vb_len, List.length_cons, List.length_nil, Nat.reduceAdd, Nat.reduceLeDiff, Nat.reduceMul, Int.reduceEq, Int.reduceLT, Int.reduceLE, Int.reduceNeg, Int.reduceAdd, Int.reduceSub, Nat.reduceLT, decide_true, decide_false, not_true_eq_false, not_false_eq_true, and_self, and_true, true_and, storeA, List.take_zero, List.drop_succ_cons, List.drop_zero, List.nil_append, List.append_nil, List.take_succ_cons, List.cons_append, cut_cons, cut_zero, cut_skip, tAt, hHide, hAt, upsAt, List.contains_cons, List.contains_nil, Nat.reduceBEq, Bool.or_true, Bool.true_or, Bool.or_false, Bool.false_or, Bool.or_self, Bool.and_true, Bool.true_and, Bool.and_false, Bool.false_and, beq_self_eq_true (α := Nat), Option.some_beq_some, Option.none_beq_some, Option.some_beq_none, Bool.false_eq_true, List.all_nil, touch, touchB, Nat.sub_self, List.range'_zero, Nat.add_sub_cancel_left, List.range'_one, h0]) (by simp only [vop, val, argsT, upd_ap, Nat.reduceEqDiff, if_true, if_false, ite_true, ite_false, reduceIte, loadAt, loadA, AV.cells, AV.one, List.all_cons, List.all_nil, ofV, ofCell, plain, List.getElem?_cons_zero, List.getElem?_cons_succ, List.getElem?_toArray, Option.getD_some, Bool.not_true, Bool.not_false, Bool.false_eq_true, Bool.and_true, Bool.true_and, Bool.and_self, Nat.zero_add, Option.map_some, Option.bind_some, List.map_cons, List.map_nil, ev_add, ev_sub, ev_mul, ev_lss, ev_leq, ev_gtr, ev_geq, ev_eql, ev_neq, ev_seql, ev_sneq, ev_sleq, ev_slss, ev_not, ev_min, ev_max, asNat_nat, asNat_zero, asNat_one, asNat_two, asNat_three, vb_len, List.length_cons, List.length_nil, Nat.reduceAdd, Nat.reduceLeDiff, Nat.reduceMul, Int.reduceEq, Int.reduceLT, Int.reduceLE, Int.reduceNeg, Int.reduceAdd, Int.reduceSub, Nat.reduceLT, decide_true, decide_false, not_true_eq_false, not_false_eq_true, and_self, and_true, true_and, storeA, List.take_zero, List.drop_succ_cons, List.drop_zero, List.nil_append, List.append_nil, List.take_succ_cons, List.cons_append, cut_cons, cut_zero, cut_skip, tAt, hHide, hAt, upsAt, List.contains_cons, List.contains_nil, Nat.reduceBEq, Bool.or_true, Bool.true_or, Bool.or_false, Bool.false_or, Bool.or_self, Bool.and_true, Bool.true_and, Bool.and_false, Bool.false_and, beq_self_eq_true (α := Nat), Option.some_beq_some, Option.none_beq_some, Option.some_beq_none, Bool.false_eq_true, List.all_nil, touch, touchB, Nat.sub_self, List.range'_zero, Nat.add_sub_cancel_left, List.range'_one, h3]) (hround k x _ _ _ hI hx (fun h' n' hn' hI' => st_gn hn' rfl ?_) (fun h' n' hn' hq => st_gn hn' rfl ?_))
      · refine wB1 (wa h0 (wa h1 (wa h3 wk))) ?_
        refine ⟨k, by omega, by omega, ?_, ?_, ?_, hI'⟩
        all_goals simp [upd_ap, h0, h1]
      · refine wB1 (wa h0 (wa h1 h3)) ?_
        exact hq
  · simp [upd_ap, argsT, hI]
end Go.Proofs.Bv
namespace Go.Proofs.Bv
open Go
theorem pc225 (G : Nat → Option (List AV)) (cs : List AV) (len : Nat) : Pc (Cf G) 225 [.psl cs len] (.fn (.func 285) [.pptr [.psl cs len] 0]) := by
  refine Pc_of (Gf_enter (C := Cf G) Tryz.func225 rfl ok225 (Nat.le_of_ble_eq_true rfl) ?_)
  simp only [Tryz.f225, Option.getD_some]
  refine wB1 @Array.size_empty.{0} ?_
  all_goals rfl
set_option maxHeartbeats 4000000 in
set_option maxRecDepth 100000 in
theorem pc224 (G : Nat → Option (List AV)) (a e : Nat) (he : e ≤ 20) (ha : a < 10 ^ 20) : Pc (Cf G) 224 [.agg (encD false a e), .sc (.int .i64 0)] (.agg (encD false (a * 10 ^ e) 0)) := by
  have h0 := pc184 G false a e
  by_cases hz : a = 0
  · subst hz
    rw [Nat.zero_mul, decide_eq_true rfl] at *
    unfold encD at h0 ⊢
    refine Pc_of (Gf_enter (C := Cf G) Tryz.func224 rfl ok224 (Nat.le_of_ble_eq_true rfl) ?_)
    simp only [Tryz.f224, Option.getD_some]
    refine wC1 trivial (wa h0 trivial) ?_
    simp only [one1, frz_a, mapF, frz_s, frz_l, Option.map_some, List.append_nil]
  · rw [decide_eq_false hz] at h0
    by_cases hx : e = 0
    · subst hx
      rw [Nat.pow_zero, Nat.mul_one]
      unfold encD at h0 ⊢
      refine Pc_of (Gf_enter (C := Cf G) Tryz.func224 rfl ok224 (Nat.le_of_ble_eq_true rfl) ?_)
      simp only [Tryz.f224, Option.getD_some]
      refine wC1 trivial (wa h0 trivial) ?_
      simp only [one1, frz_a, mapF, frz_s, frz_l, Option.map_some, List.append_nil]
    · have q1 : ¬ (e : Int) = 0 := by omega
      have w1 : IntKind.i64.wrap (e : Int) = e := i64 (by omega) (by omega)
      obtain ⟨b1, b2, b3⟩ := lim_mul ha he
      have h1 := pc284 G e (by omega)
      have h2 := pc283 G a (10 ^ e) b1 b2 b3
      have h3 := pc119 G (u32s (lim (10 ^ e))) (lim (10 ^ e)).length 0
      have h4 := pc119 G (u32s (lim (a * 10 ^ e))) (lim (a * 10 ^ e)).length 0
      unfold lsl at h1 h2
      unfold encD at h0 ⊢
      refine Pc_of (Gf_enter (C := Cf G) Tryz.func224 rfl ok224 (Nat.le_of_ble_eq_true rfl) ?_)
      simp only [Tryz.f224, Option.getD_some]
      refine gC1 (wa q1 (wa w1 @Int.sub_zero)) (wa h0 (wa h1 (wa h2 (wa h3 (wa h4 trivial))))) ?_
      simp only [one1, frz_a, mapF, frz_s, frz_l, Option.map_some, List.append_nil]
end Go.Proofs.Bv
namespace Go.Proofs.Bv
open Go
theorem gf285L (G : Nat → Option (List AV)) (l : List Int) (hl : l.length ≤ 140737488355328) (b : Nat) (L : LoopA) (J : Nat → Heap → Nat → Prop) (Q : AV → Heap → Nat → Prop)
    (hround : ∀ k x h n (K : AV → Heap → Nat → Prop), J (k + 1) h n → h b = some (.loop L) → l[k]? = some x → (∀ h' n', n ≤ n' → J k h' n' → h' b = some (.loop L) → K (.sc (.bool true)) h' n') → (∀ h' n', n ≤ n' → Q (.tup []) h' n' → K (.sc (.bool false)) h' n') →
      Wk (Cf G) (.fn (.yield b) []) [.sc (.int .i64 k), .sc (.int .u32 x)] h n K)
    (hend : ∀ h n, J 0 h n → h b = some (.loop L) → Q (.tup []) h n) {h : Heap} {n : Nat} (hJ : J l.length h n) (hL : h b = some (.loop L)) : Gf (Cf G) 285 [.fn (.yield b) [], .pptr [.psl (u32s l) l.length] 0] h n Q :=
  gf285 G l hl b (fun k h n => J k h n ∧ h b = some (.loop L)) Q (fun k x h n K hI hx hT hF => hround k x h n K hI.1 hI.2 hx (fun h' n' hn hj hl => hT h' n' hn ⟨hj, hl⟩) hF) (fun h n hI => hend h n hI.1 hI.2) ⟨hJ, hL⟩
theorem or_zero {m : Nat} {k : Nat} (hm : m ≤ 4294967295) : IntKind.i64.wrap ((BitVec.ofInt 64 (IntKind.i64.wrap (0 * 2 ^ k)) ||| BitVec.ofInt 64 (m : Int)).toNat : Int) = m := by
  have e0 : IntKind.i64.wrap (0 * 2 ^ k) = 0 := by rw [Int.zero_mul]; exact i64 (by omega) (by omega)
  have e1 : (BitVec.ofInt 64 (m : Int)).toNat = m := by
    rw [BitVec.toNat_ofInt]
    omega
  have e2 : BitVec.ofInt 64 (0 : Int) = 0#64 := rfl
  rw [e0, e2, BitVec.zero_or, e1]
  exact i64 (by omega) (by omega)
set_option maxHeartbeats 4000000 in
set_option maxRecDepth 100000 in
theorem pc163 (G : Nat → Option (List AV)) (m : Nat) (hm : m ≤ 4294967295) : Pc (Cf G) 163 [.agg (encD (intD m).1 (intD m).2.1 (intD m).2.2)] (.tup [.sc (.int .i64 m), .sc (.bool true), .sc (.int .i64 0)]) := by
  obtain ⟨f1, f2, ⟨e, f3, f4, f5⟩, f6⟩ := int_facts (m := m) (by omega)
  rw [f1, f3] at f6 ⊢
  have h1 := pc102 G false (lim (intD m).2.1) e (by have := lim_len 20 _ f2; omega) (lim_limbs _)
  rw [f6] at h1
  have h2 := pc224 G (intD m).2.1 e f4 f2
  rw [f5] at h2
  have h3 := pc225 G (u32s (lim m)) (lim m).length
  have q1 : ¬ (e : Int) < 0 := by omega
  have q2 : ¬ (21 : Int) < (e : Int) := by omega
  have hl1 : lim m = if m = 0 then [] else [(m : Int)] := by
    split
    · rename_i h; rw [h, lim_zero]
    · exact lim_one (by omega) hm
  have hll : (lim m).length ≤ 1 := by rw [hl1]; split <;> simp
  have q3 : ¬ (2 : Int) < ((lim m).length : Int) := by omega
  unfold encD at h2 ⊢
  generalize (intD m).2.1 = a at *
  refine Pc_of (Gf_enter (C := Cf G) Tryz.func163 rfl ok163 (Nat.le_of_ble_eq_true rfl) ?_)
  simp only [Tryz.f163, Option.getD_some]
  refine wC1 (wa q1 (wa q2 q3)) (wa h1 (wa h2 (wa h3 trivial))) ?_
  refine st_abs (fun T => T 1 = .ptr 0 0 ∧ T 7 = .ptr 1 0 ∧ T 32 = .fn (.func 285) [.pptr [.psl (u32s (lim m)) (lim m).length] 0]) ⟨rfl, rfl, rfl⟩ ?_
  rintro T ⟨t1, t7, t32⟩
  refine st_range' (by simp only [vop, val, argsT, upd_ap, Nat.reduceEqDiff, if_true, if_false, ite_true, ite_false, reduceIte, loadAt, loadA, AV.cells, AV.one, List.all_cons, List.all_nil, ofV, ofCell, plain, List.getElem?_cons_zero, List.getElem?_cons_succ, List.getElem?_toArray, Option.getD_some, Bool.not_true, Bool.not_false, Bool.false_eq_true, Bool.and_true, Bool.true_and, Bool.and_self, Nat.zero_add, Option.map_some, Option.bind_some, List.map_cons, List.map_nil, ev_add, ev_sub, ev_mul, ev_lss, ev_leq, ev_gtr, ev_geq, ev_eql, ev_neq, ev_seql, ev_sneq, ev_sleq, ev_slss, ev_not, ev_min, ev_max, asNat_nat, asNat_zero, asNat_one, asNat_two, asNat_three, vb_len, List.length_cons, List.length_nil, Nat.reduceAdd, Nat.reduceLeDiff, Nat.reduceMul, Int.reduceEq, Int.reduceLT, Int.reduceLE, Int.reduceNeg, Int.reduceAdd, Int.reduceSub, Nat.reduceLT, decide_true, decide_false, not_true_eq_false, not_false_eq_true, and_self, and_true, true_and, storeA, List.take_zero, List.drop_succ_cons, List.drop_zero, List.nil_append, List.append_nil, List.take_succ_cons, List.cons_append, cut_cons, cut_zero, cut_skip, tAt, hHide, hAt, upsAt, List.contains_cons, List.contains_nil, Nat.reduceBEq, Bool.or_true, Bool.true_or, Bool.or_false, Bool.false_or, Bool.or_self, Bool.and_true, Bool.true_and, Bool.and_false, Bool.false_and, beq_self_eq_true (α := Nat), Option.some_beq_some, Option.none_beq_some, Option.some_beq_none, Bool.false_eq_true, List.all_nil, touch, touchB, Nat.sub_self, List.range'_zero, Nat.add_sub_cancel_left, List.range'_one, t32]; with_reducible rfl) ?_
  refine gf285L G (lim m) (by omega) _ _ (fun k h n => k ≤ (lim m).length ∧ 3 ≤ n ∧ h 0 = some (.cells [.sc (.bool false), .psl (u32s (lim a)) (lim a).length, .sc (.int .i64 e)] 0 false) ∧ h 1 = some (.cells [.sc (.int .i64 (nv ((lim m).drop k)))] 0 false)) _ ?_ ?_ ⟨Nat.le_refl _, Nat.le_refl _, rfl, ?_⟩ rfl
  · rintro k x h n K ⟨hk, h6, q0, q1⟩ hLp hx hT hF
    have hk0 : k = 0 := by omega
    subst hk0
    have hm0 : ¬ m = 0 := by
      intro h
      rw [hl1, if_pos h] at hx
      simp at hx
    rw [hl1, if_neg hm0] at hx
    have hx : (m : Int) = x := by simpa using hx
    subst hx
    have hd1 : nv ((lim m).drop (0 + 1)) = 0 := by rw [hl1, if_neg hm0]; simp [nv]
    have hd0 : nv ((lim m).drop 0) = m := by rw [List.drop_zero, nv_lim]
    rw [hd1] at q1
    have w2 : IntKind.i64.wrap (m : Int) = m := i64 (by omega) (by omega)
    refine Wk_yield hLp (by kernel_rfl) rfl ?_
    refine wB1 hLp ?_
    refine roundMid_of hLp rfl ?_
    refine wB1 (wa t1 (wa t7 (wa hLp (wa q0 (wa q1 w2))))) ?_
    refine roundEnd_norm (by simp only [vop, val, argsT, upd_ap, Nat.reduceEqDiff, if_true, if_false, ite_true, ite_false, reduceIte, loadAt, loadA, AV.cells, AV.one, List.all_cons, List.all_nil, ofV, ofCell, plain, List.getElem?_cons_zero, List.getElem?_cons_succ, List.getElem?_toArray, Option.getD_some, Bool.not_true, Bool.not_false, Bool.false_eq_true, Bool.and_true, Bool.true_and, Bool.and_self, Nat.zero_add, Option.map_some, Option.bind_some, List.map_cons, List.map_nil, ev_add, ev_sub, ev_mul, ev_lss, ev_leq, ev_gtr, ev_geq, ev_eql, ev_neq, ev_seql, ev_sneq, ev_sleq, ev_slss, ev_not, ev_min, ev_max, asNat_nat, asNat_zero, asNat_one, asNat_two, asNat_three, vb_len, List.length_cons, List.length_nil, Nat.reduceAdd, Nat.reduceLeDiff, Nat.reduceMul, Int.reduceEq, Int.reduceLT, Int.reduceLE, Int.reduceNeg, Int.reduceAdd, Int.reduceSub, Nat.reduceLT, decide_true, decide_false, not_true_eq_false, not_false_eq_true, and_self, and_true, true_and, storeA, List.take_zero, List.drop_succ_cons, List.drop_zero, List.nil_append, List.append_nil, List.take_succ_cons, List.cons_append, cut_cons, cut_zero, cut_skip, tAt, hHide, hAt, upsAt, List.contains_cons, List.contains_nil, Nat.reduceBEq, Bool.or_true, Bool.true_or, Bool.or_false, Bool.false_or, Bool.or_self, Bool.and_true, Bool.true_and, Bool.and_false, Bool.false_and, beq_self_eq_true (α := Nat), Option.some_beq_some, Option.none_beq_some, Option.some_beq_none, Bool.false_eq_true, List.all_nil, touch, touchB, Nat.sub_self, List.range'_zero, Nat.add_sub_cancel_left, List.range'_one]; with_reducible rfl) ?_
    refine hT _ _ (Nat.le_refl _) ⟨by omega, h6, ?_, ?_⟩ ?_
    · simp only [vop, val, argsT, upd_ap, Nat.reduceEqDiff, if_true, if_false, ite_true, ite_false, reduceIte, loadAt, loadA, AV.cells, AV.one, List.all_cons, List.all_nil, ofV, ofCell, plain, List.getElem?_cons_zero, List.getElem?_cons_succ, List.getElem?_toArray, Option.getD_some, Bool.not_true, Bool.not_false, Bool.false_eq_true, Bool.and_true, Bool.true_and, Bool.and_self, Nat.zero_add, Option.map_some, Option.bind_some, List.map_cons, List.map_nil, ev_add, ev_sub, ev_mul, ev_lss, ev_leq, ev_gtr, ev_geq, ev_eql, ev_neq, ev_seql, ev_sneq, ev_sleq, ev_slss, ev_not, ev_min, ev_max, asNat_nat, asNat_zero, asNat_one, asNat_two, asNat_three, vb_len, List.length_cons, List.length_nil, Nat.reduceAdd, Nat.reduceLeDiff, Nat.reduceMul, Int.reduceEq, Int.reduceLT, Int.reduceLE, Int.reduceNeg, Int.reduceAdd, Int.reduceSub, Nat.reduceLT, decide_true, decide_false, not_true_eq_false, not_false_eq_true, and_self, and_true, true_and, storeA, List.take_zero, List.drop_succ_cons, List.drop_zero, List.nil_append, List.append_nil, List.take_succ_cons, List.cons_append, cut_cons, cut_zero, cut_skip, tAt, hHide, hAt, upsAt, List.contains_cons, List.contains_nil, Nat.reduceBEq, Bool.or_true, Bool.true_or, Bool.or_false, Bool.false_or, Bool.or_self, Bool.and_true, Bool.true_and, Bool.and_false, Bool.false_and, beq_self_eq_true (α := Nat), Option.some_beq_some, Option.none_beq_some, Option.some_beq_none, Bool.false_eq_true, List.all_nil, touch, touchB, Nat.sub_self, List.range'_zero, Nat.add_sub_cancel_left, List.range'_one, q0]
    · simp only [vop, val, argsT, upd_ap, Nat.reduceEqDiff, if_true, if_false, ite_true, ite_false, reduceIte, loadAt, loadA, AV.cells, AV.one, List.all_cons, List.all_nil, ofV, ofCell, plain, List.getElem?_cons_zero, List.getElem?_cons_succ, List.getElem?_toArray, Option.getD_some, Bool.not_true, Bool.not_false, Bool.false_eq_true, Bool.and_true, Bool.true_and, Bool.and_self, Nat.zero_add, Option.map_some, Option.bind_some, List.map_cons, List.map_nil, ev_add, ev_sub, ev_mul, ev_lss, ev_leq, ev_gtr, ev_geq, ev_eql, ev_neq, ev_seql, ev_sneq, ev_sleq, ev_slss, ev_not, ev_min, ev_max, asNat_nat, asNat_zero, asNat_one, asNat_two, asNat_three, vb_len, List.length_cons, List.length_nil, Nat.reduceAdd, Nat.reduceLeDiff, Nat.reduceMul, Int.reduceEq, Int.reduceLT, Int.reduceLE, Int.reduceNeg, Int.reduceAdd, Int.reduceSub, Nat.reduceLT, decide_true, decide_false, not_true_eq_false, not_false_eq_true, and_self, and_true, true_and, storeA, List.take_zero, List.drop_succ_cons, List.drop_zero, List.nil_append, List.append_nil, List.take_succ_cons, List.cons_append, cut_cons, cut_zero, cut_skip, tAt, hHide, hAt, upsAt, List.contains_cons, List.contains_nil, Nat.reduceBEq, Bool.or_true, Bool.true_or, Bool.or_false, Bool.false_or, Bool.or_self, Bool.and_true, Bool.true_and, Bool.and_false, Bool.false_and, beq_self_eq_true (α := Nat), Option.some_beq_some, Option.none_beq_some, Option.some_beq_none, Bool.false_eq_true, List.all_nil, touch, touchB, Nat.sub_self, List.range'_zero, Nat.add_sub_cancel_left, List.range'_one, hd0]
      rw [nv_lim]
      exact congrArg (fun z => some (Blk.cells [AV.sc (Value.int IntKind.i64 z)] 0 false)) (or_zero (k := min (Int.toNat 32) 64) hm)
    · simp only [vop, val, argsT, upd_ap, Nat.reduceEqDiff, if_true, if_false, ite_true, ite_false, reduceIte, loadAt, loadA, AV.cells, AV.one, List.all_cons, List.all_nil, ofV, ofCell, plain, List.getElem?_cons_zero, List.getElem?_cons_succ, List.getElem?_toArray, Option.getD_some, Bool.not_true, Bool.not_false, Bool.false_eq_true, Bool.and_true, Bool.true_and, Bool.and_self, Nat.zero_add, Option.map_some, Option.bind_some, List.map_cons, List.map_nil, ev_add, ev_sub, ev_mul, ev_lss, ev_leq, ev_gtr, ev_geq, ev_eql, ev_neq, ev_seql, ev_sneq, ev_sleq, ev_slss, ev_not, ev_min, ev_max, asNat_nat, asNat_zero, asNat_one, asNat_two, asNat_three, vb_len, List.length_cons, List.length_nil, Nat.reduceAdd, Nat.reduceLeDiff, Nat.reduceMul, Int.reduceEq, Int.reduceLT, Int.reduceLE, Int.reduceNeg, Int.reduceAdd, Int.reduceSub, Nat.reduceLT, decide_true, decide_false, not_true_eq_false, not_false_eq_true, and_self, and_true, true_and, storeA, List.take_zero, List.drop_succ_cons, List.drop_zero, List.nil_append, List.append_nil, List.take_succ_cons, List.cons_append, cut_cons, cut_zero, cut_skip, tAt, hHide, hAt, upsAt, List.contains_cons, List.contains_nil, Nat.reduceBEq, Bool.or_true, Bool.true_or, Bool.or_false, Bool.false_or, Bool.or_self, Bool.and_true, Bool.true_and, Bool.and_false, Bool.false_and, beq_self_eq_true (α := Nat), Option.some_beq_some, Option.none_beq_some, Option.some_beq_none, Bool.false_eq_true, List.all_nil, touch, touchB, Nat.sub_self, List.range'_zero, Nat.add_sub_cancel_left, List.range'_one]
  · rintro h n ⟨_, h6, q0, q1⟩ hLp
    refine rangeEnd_norm (by omega) hLp rfl rfl ?_
    rw [List.drop_zero, nv_lim] at q1
    have r1 : ¬ (m : Int) < 0 := by omega
    have r2 : ¬ (9007199254740992 : Int) < (m : Int) := by omega
    refine wB1 (wa t1 (wa t7 (wa hLp (wa q0 (wa q1 (wa r1 r2)))))) ?_
    simp only [one1, frz_t, mapF, frz_s, frz_l, Option.map_some, List.append_nil]
  · simp [upd_ap, nv]
set_option maxHeartbeats 4000000 in
set_option maxRecDepth 100000 in
theorem pc105 (G : Nat → Option (List AV)) (m : Nat) (hm : m ≤ 4294967295) : Pc (Cf G) 105 [.agg (encD (intD m).1 (intD m).2.1 (intD m).2.2), .fn (.func 106) []] (.sc (.int .i64 m)) := by
  have h1 := pc106 G m (by omega)
  have h2 := pc163 G m hm
  unfold encD at h1 h2 ⊢
  generalize intD m = r at *
  refine Pc_of (Gf_enter (C := Cf G) Tryz.func105 rfl ok105 (Nat.le_of_ble_eq_true rfl) ?_)
  simp only [Tryz.f105, Option.getD_some]
  refine wC1 trivial (wa h1 (wa h2 trivial)) ?_
  simp only [one1, frz_s, Option.map_some]
theorem pc56 (G : Nat → Option (List AV)) (m : Nat) (hm : m ≤ 4294967295) : Pc (Cf G) 56 [.agg (encD (intD m).1 (intD m).2.1 (intD m).2.2)] (.sc (.int .i64 m)) := by
  have h1 := pc105 G m hm
  unfold encD at h1 ⊢
  generalize intD m = r at *
  refine Pc_of (Gf_enter (C := Cf G) Tryz.func56 rfl ok56 (Nat.le_of_ble_eq_true rfl) ?_)
  simp only [Tryz.f56, Option.getD_some]
  refine wC1 trivial (wa h1 trivial) ?_
  simp only [one1, frz_s, Option.map_some]
end Go.Proofs.Bv
namespace Go.Proofs.Bv
open Go
theorem ok18 : codeOk 51 (Tryz.f18.body.getD .skip) = true := by kernel_rfl
theorem ok16 : codeOk 47 (Tryz.f16.body.getD .skip) = true := by kernel_rfl
set_option maxHeartbeats 8000000 in
set_option maxRecDepth 100000 in
theorem pc18T (G : Nat → Option (List AV)) (ng : Bool) (cf : List Int) (ex : Int) (t : ByteArray) (l : List JV) (ks : List ByteArray) (s : ByteArray)
    (hv : Fit (.mk 6 ng cf ex t l ks)) (hw : Fit (textV s)) (hc : chks [.mk 6 ng cf ex t l ks, textV s] = 0) :
    Pc (Cf G) 18 [.agg (enc (.mk 6 ng cf ex t l ks)), .agg (enc (textV s))] (.tup [.sc (.bool (decide (0 ≤ idxS ks s 0))), .sc (.int .i64 0)]) := by
  have h1 := pc54 G [.mk 6 ng cf ex t l ks, textV s] (by simp) ⟨hv, hw, trivial⟩
  rw [hc] at h1
  have h2 := pc55 G ks s (by have := hv.1.nkeys; omega)
  simp only [textV, enc, encs, List.cons_append, List.nil_append, List.append_nil, List.length_nil] at h1 ⊢
  simp only [List.length_cons, List.length_nil, Nat.zero_add, Nat.reduceAdd] at h1
  refine Pc_of (Gf_enter (C := Cf G) Tryz.func18 rfl ok18 (Nat.le_of_ble_eq_true rfl) ?_)
  simp only [Tryz.f18, Option.getD_some]
  refine wF1 trivial (wa h1 (wa h2 trivial)) ?_
  simp only [one1, frz_t, mapF, frz_s, Option.map_some, List.append_nil]
set_option maxHeartbeats 8000000 in
set_option maxRecDepth 100000 in
theorem pc18N (G : Nat → Option (List AV)) (ng : Bool) (cf : List Int) (ex : Int) (t : ByteArray) (l : List JV) (ks : List ByteArray) (m : Nat) (hm : m ≤ 4294967295)
    (hv : Fit (.mk 5 ng cf ex t l ks)) (hw : Fit (numV m)) (hc : chks [.mk 5 ng cf ex t l ks, numV m] = 0) :
    Pc (Cf G) 18 [.agg (enc (.mk 5 ng cf ex t l ks)), .agg (enc (numV m))] (.tup [.sc (.bool (decide (m < l.length))), .sc (.int .i64 0)]) := by
  have h1 := pc54 G [.mk 5 ng cf ex t l ks, numV m] (by simp) ⟨hv, hw, trivial⟩
  rw [hc] at h1
  have h2 := pc56 G m hm
  unfold encD at h2
  simp only [numV, enc, encs, List.cons_append, List.nil_append, List.append_nil, List.length_nil] at h1 ⊢
  simp only [List.length_cons, List.length_nil, Nat.zero_add, Nat.reduceAdd] at h1
  have q1 : (0 : Int) ≤ (m : Int) := by omega
  generalize intD m = r at *
  by_cases hlt : m < l.length
  · rw [decide_eq_true hlt]
    have q2 : (m : Int) < (l.length : Int) := by omega
    refine Pc_of (Gf_enter (C := Cf G) Tryz.func18 rfl ok18 (Nat.le_of_ble_eq_true rfl) ?_)
    simp only [Tryz.f18, Option.getD_some]
    refine wF1 (wa q1 q2) (wa h1 (wa h2 trivial)) ?_
    simp only [one1, frz_t, mapF, frz_s, Option.map_some, List.append_nil]
  · rw [decide_eq_false hlt]
    have q2 : ¬ (m : Int) < (l.length : Int) := by omega
    refine Pc_of (Gf_enter (C := Cf G) Tryz.func18 rfl ok18 (Nat.le_of_ble_eq_true rfl) ?_)
    simp only [Tryz.f18, Option.getD_some]
    refine wF1 (wa q1 q2) (wa h1 (wa h2 trivial)) ?_
    simp only [one1, frz_t, mapF, frz_s, Option.map_some, List.append_nil]
set_option maxHeartbeats 8000000 in
set_option maxRecDepth 100000 in
theorem pc18X (G : Nat → Option (List AV)) (ng : Bool) (cf : List Int) (ex : Int) (t : ByteArray) (l : List JV) (ks : List ByteArray) (m : Nat)
    (hv : Fit (.mk 6 ng cf ex t l ks)) (hw : Fit (numV m)) (hc : chks [.mk 6 ng cf ex t l ks, numV m] = 0) :
    Pc (Cf G) 18 [.agg (enc (.mk 6 ng cf ex t l ks)), .agg (enc (numV m))] (.tup [.sc (.bool false), .sc (.int .i64 41)]) := by
  have h1 := pc54 G [.mk 6 ng cf ex t l ks, numV m] (by simp) ⟨hv, hw, trivial⟩
  rw [hc] at h1
  simp only [numV, enc, encs, List.cons_append, List.nil_append, List.append_nil, List.length_nil] at h1 ⊢
  simp only [List.length_cons, List.length_nil, Nat.zero_add, Nat.reduceAdd] at h1
  generalize intD m = r at *
  refine Pc_of (Gf_enter (C := Cf G) Tryz.func18 rfl ok18 (Nat.le_of_ble_eq_true rfl) ?_)
  simp only [Tryz.f18, Option.getD_some]
  refine wF1 trivial (wa h1 trivial) ?_
  simp only [one1, frz_t, mapF, frz_s, Option.map_some, List.append_nil]
end Go.Proofs.Bv
namespace Go.Proofs.Bv
open Go
def OwnV (x : AV) (h : Heap) (n lo : Nat) (l : List JV) : Prop := (x = .nilS ∧ l = []) ∨ ∃ b, x = .osl b 0 l.length ∧ h b = some (.cells (encs l) 7 false) ∧ lo ≤ b ∧ b < n
theorem encs_snoc (d : List JV) (x : JV) : encs d ++ enc x = encs (d ++ [x]) := by rw [encs_app]; simp [encs]
set_option maxHeartbeats 8000000 in
set_option maxRecDepth 100000 in
theorem pc16T (G : Nat → Option (List AV)) (ng : Bool) (cf : List Int) (ex : Int) (t : ByteArray) (l : List JV) (ks : List ByteArray)
    (hv : Fit (.mk 6 ng cf ex t l ks)) (hc : chk (.mk 6 ng cf ex t l ks) = 0) (hl : ks.length = l.length) (hk : l.length ≤ 4096) :
    Pc (Cf G) 16 [.agg (enc (.mk 6 ng cf ex t l ks))] (.tup [.agg (enc (.mk 5 false [] 0 ⟨#[]⟩ (ks.map textV) [])), .sc (.int .i64 0)]) := by
  have h1 := pc44 G (.mk 6 ng cf ex t l ks) hv
  rw [hc] at h1
  simp only [enc] at h1 ⊢
  refine Pc_of (Gf_enter (C := Cf G) Tryz.func16 rfl ok16 (Nat.le_of_ble_eq_true rfl) ?_)
  simp only [Tryz.f16, Option.getD_some]
  refine wC1 trivial (wa h1 trivial) ?_
  refine Gc_loop_inv (fun m st => ∃ d r, ks = d ++ r ∧ m = r.length ∧ 3 ≤ st.n ∧ st.T 1 = .ptr 0 0 ∧ st.T 2 = .ptr 1 0 ∧ st.T 5 = .ptr 2 0 ∧ st.T 20 = .sc (.int .i64 l.length) ∧ st.T 21 = .sc (.int .i64 d.length) ∧
    st.h 0 = some (.cells [.sc (.int .i64 6), .sc (.bool ng), .psl (u32s cf) cf.length, .sc (.int .i64 ex), .sc (.string t), .psl (encs l) l.length, .psl (strs ks) ks.length] 0 false) ∧
    st.h 1 = some (.cells [.sc (.int .i64 0), .sc (.bool false), .nilS, .sc (.int .i64 0), .sc (.string ⟨#[]⟩), .nilS, .nilS] 0 false) ∧
    ∃ x, st.h 2 = some (.cells [.sc (.int .i64 5), .sc (.bool false), .nilS, .sc (.int .i64 0), .sc (.string ⟨#[]⟩), x, .nilS] 0 false) ∧ OwnV x st.h st.n 3 (d.map textV)) ?_ ks.length _ ⟨[], ks, rfl, rfl, Nat.le_refl _, rfl, rfl, rfl, rfl, rfl, rfl, rfl, .nilS, rfl, .inl ⟨rfl, rfl⟩⟩
  · rintro m ⟨T, h, n⟩ ⟨d, r, hdr, rfl, hn3, t1, t2, t5, t20, t21, q0, r1, x, q2, ho⟩
    simp only at hn3 t1 t2 t5 t20 t21 q0 r1 q2 ho
    cases r with
    | nil =>
      have e : d = ks := by rw [hdr]; simp
      subst e
      have hge : ¬ (d.length : Int) < (l.length : Int) := by omega
      rcases ho with ⟨rfl, hd0⟩ | ⟨b, rfl, hb, hb3, hbn⟩
      · have hd1 : d = [] := List.map_eq_nil_iff.1 hd0
        refine wB1 (wa t1 (wa t2 (wa t5 (wa t20 (wa t21 (wa q0 (wa r1 (wa q2 hge)))))))) ?_
        subst hd1
        simp only [one1, frz_t, frz_a, mapF, frz_s, frz_n, Option.map_some, List.append_nil]
        rfl
      · have z1 : ¬ b = 1 := by omega
        have z2 : ¬ b = 2 := by omega
        have z3 : ¬ b = 0 := by omega
        refine wB1 (wa t1 (wa t2 (wa t5 (wa t20 (wa t21 (wa q0 (wa r1 (wa q2 (wa hge (wa hb (wa z1 (wa z2 z3)))))))))))) ?_
        simp only [one1, frz_t, frz_a, mapF, frz_s, frz_n, Option.map_some, List.append_nil]
        rw [frz_w (es := 7) (fz := false) (cs := encs (d.map textV)) (by simp only [upd_ap, if_neg z1]; exact hb) (by rw [encs_len]) (encs_pur _)]
        rfl
    | cons s r =>
      have hltk : d.length < ks.length := by rw [hdr]; simp
      have hlt : (d.length : Int) < (l.length : Int) := by omega
      have hx : (strs ks)[d.length * 1]? = some (.sc (.string s)) := by rw [hdr]; simp [strs]
      have h2 := pc50 G s
      simp only [textV, enc, encs, List.length_nil] at h2
      have w4 : IntKind.i64.wrap ((d.length : Int) + 1) = (d.length : Int) + 1 := i64 (by omega) (by omega)
      have xp0 : ¬ 0 = n := by omega
      have yp0 : (0 == n) = false := beq_false_of_ne (by omega)
      have xq0 : ¬ n = 0 := by omega
      have yq0 : (n == 0) = false := beq_false_of_ne (by omega)
      have xp1 : ¬ 1 = n := by omega
      have yp1 : (1 == n) = false := beq_false_of_ne (by omega)
      have xq1 : ¬ n = 1 := by omega
      have yq1 : (n == 1) = false := beq_false_of_ne (by omega)
      have xp2 : ¬ 2 = n := by omega
      have yp2 : (2 == n) = false := beq_false_of_ne (by omega)
      have xq2 : ¬ n = 2 := by omega
      have yq2 : (n == 2) = false := beq_false_of_ne (by omega)
      have xp3 : ¬ 0 = n + 1 := by omega
      have yp3 : (0 == n + 1) = false := beq_false_of_ne (by omega)
      have xq3 : ¬ n + 1 = 0 := by omega
      have yq3 : (n + 1 == 0) = false := beq_false_of_ne (by omega)
      have xp4 : ¬ 1 = n + 1 := by omega
      have yp4 : (1 == n + 1) = false := beq_false_of_ne (by omega)
      have xq4 : ¬ n + 1 = 1 := by omega
      have yq4 : (n + 1 == 1) = false := beq_false_of_ne (by omega)
      have xp5 : ¬ 2 = n + 1 := by omega
      have yp5 : (2 == n + 1) = false := beq_false_of_ne (by omega)
      have xq5 : ¬ n + 1 = 2 := by omega
      have yq5 : (n + 1 == 2) = false := beq_false_of_ne (by omega)
      have xp6 : ¬ n = n + 1 := by omega
      have yp6 : (n == n + 1) = false := beq_false_of_ne (by omega)
      have xq6 : ¬ n + 1 = n := by omega
      have yq6 : (n + 1 == n) = false := beq_false_of_ne (by omega)
      rcases ho with ⟨rfl, hd0⟩ | ⟨b, rfl, hb, hb3, hbn⟩
      · refine gC1 (wa t1 (wa t2 (wa t5 (wa t20 (wa t21 (wa q0 (wa q2 (wa hltk (wa hlt (wa hx (wa w4 (wa xp0 (wa yp0 (wa xq0 (wa yq0 (wa xp1 (wa yp1 (wa xq1 (wa yq1 (wa xp2 (wa yp2 (wa xq2 (wa yq2 (wa xp3 (wa yp3 (wa xq3 (wa yq3 (wa xp4 (wa yp4 (wa xq4 (wa yq4 (wa xp5 (wa yp5 (wa xq5 (wa yq5 (wa xp6 (wa yp6 (wa xq6 yq6)))))))))))))))))))))))))))))))))))))) (wa h2 trivial) ?_
        have hd1 : d = [] := List.map_eq_nil_iff.1 hd0
        subst hd1
        refine ⟨r.length, by simp, [s], r, by rw [hdr]; simp, rfl, by simp only; omega, ?_, ?_, ?_, ?_, ?_, ?_, ?_, .osl (n + 1) 0 1, ?_, .inr ⟨n + 1, rfl, ?_, by omega, by simp only; omega⟩⟩
        · simp only [vop, val, argsT, upd_ap, Nat.reduceEqDiff, if_true, if_false, ite_true, ite_false, reduceIte, loadAt, loadA, AV.cells, AV.one, List.all_cons, List.all_nil, ofV, ofCell, plain, List.getElem?_cons_zero, List.getElem?_cons_succ, List.getElem?_toArray, Option.getD_some, Bool.not_true, Bool.not_false, Bool.false_eq_true, Bool.and_true, Bool.true_and, Bool.and_self, Nat.zero_add, Option.map_some, Option.bind_some, List.map_cons, List.map_nil, ev_add, ev_sub, ev_mul, ev_lss, ev_leq, ev_gtr, ev_geq, ev_eql, ev_neq, ev_seql, ev_sneq, ev_sleq, ev_slss, ev_not, ev_min, ev_max, asNat_nat, asNat_zero, asNat_one, asNat_two, asNat_three, vb_len, List.length_cons, List.length_nil, Nat.reduceAdd, Nat.reduceLeDiff, Nat.reduceMul, Int.reduceEq, Int.reduceLT, Int.reduceLE, Int.reduceNeg, Int.reduceAdd, Int.reduceSub, Nat.reduceLT, decide_true, decide_false, not_true_eq_false, not_false_eq_true, and_self, and_true, true_and, storeA, List.take_zero, List.drop_succ_cons, List.drop_zero, List.nil_append, List.append_nil, List.take_succ_cons, List.cons_append, cut_cons, cut_zero, cut_skip, tAt, hHide, hAt, upsAt, List.contains_cons, List.contains_nil, Nat.reduceBEq, Bool.or_true, Bool.true_or, Bool.or_false, Bool.false_or, Bool.or_self, Bool.and_true, Bool.true_and, Bool.and_false, Bool.false_and, beq_self_eq_true (α := Nat), Option.some_beq_some, Option.none_beq_some, Option.some_beq_none, Bool.false_eq_true, List.all_nil, touch, touchB, Nat.sub_self, List.range'_zero, Nat.add_sub_cancel_left, List.range'_one, t1]
        · simp only [vop, val, argsT, upd_ap, Nat.reduceEqDiff, if_true, if_false, ite_true, ite_false, reduceIte, loadAt, loadA, AV.cells, AV.one, List.all_cons, List.all_nil, ofV, ofCell, plain, List.getElem?_cons_zero, List.getElem?_cons_succ, List.getElem?_toArray, Option.getD_some, Bool.not_true, Bool.not_false, Bool.false_eq_true, Bool.and_true, Bool.true_and, Bool.and_self, Nat.zero_add, Option.map_some, Option.bind_some, List.map_cons, List.map_nil, ev_add, ev_sub, ev_mul, ev_lss, ev_leq, ev_gtr, ev_geq, ev_eql, ev_neq, ev_seql, ev_sneq, ev_sleq, ev_slss, ev_not, ev_min, ev_max, asNat_nat, asNat_zero, asNat_one, asNat_two, asNat_three, vb_len, List.length_cons, List.length_nil, Nat.reduceAdd, Nat.reduceLeDiff, Nat.reduceMul, Int.reduceEq, Int.reduceLT, Int.reduceLE, Int.reduceNeg, Int.reduceAdd, Int.reduceSub, Nat.reduceLT, decide_true, decide_false, not_true_eq_false, not_false_eq_true, and_self, and_true, true_and, storeA, List.take_zero, List.drop_succ_cons, List.drop_zero, List.nil_append, List.append_nil, List.take_succ_cons, List.cons_append, cut_cons, cut_zero, cut_skip, tAt, hHide, hAt, upsAt, List.contains_cons, List.contains_nil, Nat.reduceBEq, Bool.or_true, Bool.true_or, Bool.or_false, Bool.false_or, Bool.or_self, Bool.and_true, Bool.true_and, Bool.and_false, Bool.false_and, beq_self_eq_true (α := Nat), Option.some_beq_some, Option.none_beq_some, Option.some_beq_none, Bool.false_eq_true, List.all_nil, touch, touchB, Nat.sub_self, List.range'_zero, Nat.add_sub_cancel_left, List.range'_one, t2]
        · simp only [vop, val, argsT, upd_ap, Nat.reduceEqDiff, if_true, if_false, ite_true, ite_false, reduceIte, loadAt, loadA, AV.cells, AV.one, List.all_cons, List.all_nil, ofV, ofCell, plain, List.getElem?_cons_zero, List.getElem?_cons_succ, List.getElem?_toArray, Option.getD_some, Bool.not_true, Bool.not_false, Bool.false_eq_true, Bool.and_true, Bool.true_and, Bool.and_self, Nat.zero_add, Option.map_some, Option.bind_some, List.map_cons, List.map_nil, ev_add, ev_sub, ev_mul, ev_lss, ev_leq, ev_gtr, ev_geq, ev_eql, ev_neq, ev_seql, ev_sneq, ev_sleq, ev_slss, ev_not, ev_min, ev_max, asNat_nat, asNat_zero, asNat_one, asNat_two, asNat_three, vb_len, List.length_cons, List.length_nil, Nat.reduceAdd, Nat.reduceLeDiff, Nat.reduceMul, Int.reduceEq, Int.reduceLT, Int.reduceLE, Int.reduceNeg, Int.reduceAdd, Int.reduceSub, Nat.reduceLT, decide_true, decide_false, not_true_eq_false, not_false_eq_true, and_self, and_true, true_and, storeA, List.take_zero, List.drop_succ_cons, List.drop_zero, List.nil_append, List.append_nil, List.take_succ_cons, List.cons_append, cut_cons, cut_zero, cut_skip, tAt, hHide, hAt, upsAt, List.contains_cons, List.contains_nil, Nat.reduceBEq, Bool.or_true, Bool.true_or, Bool.or_false, Bool.false_or, Bool.or_self, Bool.and_true, Bool.true_and, Bool.and_false, Bool.false_and, beq_self_eq_true (α := Nat), Option.some_beq_some, Option.none_beq_some, Option.some_beq_none, Bool.false_eq_true, List.all_nil, touch, touchB, Nat.sub_self, List.range'_zero, Nat.add_sub_cancel_left, List.range'_one, t5]
        · simp only [vop, val, argsT, upd_ap, Nat.reduceEqDiff, if_true, if_false, ite_true, ite_false, reduceIte, loadAt, loadA, AV.cells, AV.one, List.all_cons, List.all_nil, ofV, ofCell, plain, List.getElem?_cons_zero, List.getElem?_cons_succ, List.getElem?_toArray, Option.getD_some, Bool.not_true, Bool.not_false, Bool.false_eq_true, Bool.and_true, Bool.true_and, Bool.and_self, Nat.zero_add, Option.map_some, Option.bind_some, List.map_cons, List.map_nil, ev_add, ev_sub, ev_mul, ev_lss, ev_leq, ev_gtr, ev_geq, ev_eql, ev_neq, ev_seql, ev_sneq, ev_sleq, ev_slss, ev_not, ev_min, ev_max, asNat_nat, asNat_zero, asNat_one, asNat_two, asNat_three, vb_len, List.length_cons, List.length_nil, Nat.reduceAdd, Nat.reduceLeDiff, Nat.reduceMul, Int.reduceEq, Int.reduceLT, Int.reduceLE, Int.reduceNeg, Int.reduceAdd, Int.reduceSub, Nat.reduceLT, decide_true, decide_false, not_true_eq_false, not_false_eq_true, and_self, and_true, true_and, storeA, List.take_zero, List.drop_succ_cons, List.drop_zero, List.nil_append, List.append_nil, List.take_succ_cons, List.cons_append, cut_cons, cut_zero, cut_skip, tAt, hHide, hAt, upsAt, List.contains_cons, List.contains_nil, Nat.reduceBEq, Bool.or_true, Bool.true_or, Bool.or_false, Bool.false_or, Bool.or_self, Bool.and_true, Bool.true_and, Bool.and_false, Bool.false_and, beq_self_eq_true (α := Nat), Option.some_beq_some, Option.none_beq_some, Option.some_beq_none, Bool.false_eq_true, List.all_nil, touch, touchB, Nat.sub_self, List.range'_zero, Nat.add_sub_cancel_left, List.range'_one, t20]
        · simp [upd_ap]
        · simp only [vop, val, argsT, upd_ap, Nat.reduceEqDiff, if_true, if_false, ite_true, ite_false, reduceIte, loadAt, loadA, AV.cells, AV.one, List.all_cons, List.all_nil, ofV, ofCell, plain, List.getElem?_cons_zero, List.getElem?_cons_succ, List.getElem?_toArray, Option.getD_some, Bool.not_true, Bool.not_false, Bool.false_eq_true, Bool.and_true, Bool.true_and, Bool.and_self, Nat.zero_add, Option.map_some, Option.bind_some, List.map_cons, List.map_nil, ev_add, ev_sub, ev_mul, ev_lss, ev_leq, ev_gtr, ev_geq, ev_eql, ev_neq, ev_seql, ev_sneq, ev_sleq, ev_slss, ev_not, ev_min, ev_max, asNat_nat, asNat_zero, asNat_one, asNat_two, asNat_three, vb_len, List.length_cons, List.length_nil, Nat.reduceAdd, Nat.reduceLeDiff, Nat.reduceMul, Int.reduceEq, Int.reduceLT, Int.reduceLE, Int.reduceNeg, Int.reduceAdd, Int.reduceSub, Nat.reduceLT, decide_true, decide_false, not_true_eq_false, not_false_eq_true, and_self, and_true, true_and, storeA, List.take_zero, List.drop_succ_cons, List.drop_zero, List.nil_append, List.append_nil, List.take_succ_cons, List.cons_append, cut_cons, cut_zero, cut_skip, tAt, hHide, hAt, upsAt, List.contains_cons, List.contains_nil, Nat.reduceBEq, Bool.or_true, Bool.true_or, Bool.or_false, Bool.false_or, Bool.or_self, Bool.and_true, Bool.true_and, Bool.and_false, Bool.false_and, beq_self_eq_true (α := Nat), Option.some_beq_some, Option.none_beq_some, Option.some_beq_none, Bool.false_eq_true, List.all_nil, touch, touchB, Nat.sub_self, List.range'_zero, Nat.add_sub_cancel_left, List.range'_one, q0, xp0, yp0, xq0, yq0, xp1, yp1, xq1, yq1, xp2, yp2, xq2, yq2, xp3, yp3, xq3, yq3, xp4, yp4, xq4, yq4, xp5, yp5, xq5, yq5, xp6, yp6, xq6, yq6]
        · simp only [vop, val, argsT, upd_ap, Nat.reduceEqDiff, if_true, if_false, ite_true, ite_false, reduceIte, loadAt, loadA, AV.cells, AV.one, List.all_cons, List.all_nil, ofV, ofCell, plain, List.getElem?_cons_zero, List.getElem?_cons_succ, List.getElem?_toArray, Option.getD_some, Bool.not_true, Bool.not_false, Bool.false_eq_true, Bool.and_true, Bool.true_and, Bool.and_self, Nat.zero_add, Option.map_some, Option.bind_some, List.map_cons, List.map_nil, ev_add, ev_sub, ev_mul, ev_lss, ev_leq, ev_gtr, ev_geq, ev_eql, ev_neq, ev_seql, ev_sneq, ev_sleq, ev_slss, ev_not, ev_min, ev_max, asNat_nat, asNat_zero, asNat_one, asNat_two, asNat_three, vb_len, List.length_cons, List.length_nil, Nat.reduceAdd, Nat.reduceLeDiff, Nat.reduceMul, Int.reduceEq, Int.reduceLT, Int.reduceLE, Int.reduceNeg, Int.reduceAdd, Int.reduceSub, Nat.reduceLT, decide_true, decide_false, not_true_eq_false, not_false_eq_true, and_self, and_true, true_and, storeA, List.take_zero, List.drop_succ_cons, List.drop_zero, List.nil_append, List.append_nil, List.take_succ_cons, List.cons_append, cut_cons, cut_zero, cut_skip, tAt, hHide, hAt, upsAt, List.contains_cons, List.contains_nil, Nat.reduceBEq, Bool.or_true, Bool.true_or, Bool.or_false, Bool.false_or, Bool.or_self, Bool.and_true, Bool.true_and, Bool.and_false, Bool.false_and, beq_self_eq_true (α := Nat), Option.some_beq_some, Option.none_beq_some, Option.some_beq_none, Bool.false_eq_true, List.all_nil, touch, touchB, Nat.sub_self, List.range'_zero, Nat.add_sub_cancel_left, List.range'_one, r1, xp0, yp0, xq0, yq0, xp1, yp1, xq1, yq1, xp2, yp2, xq2, yq2, xp3, yp3, xq3, yq3, xp4, yp4, xq4, yq4, xp5, yp5, xq5, yq5, xp6, yp6, xq6, yq6]
        · simp only [vop, val, argsT, upd_ap, Nat.reduceEqDiff, if_true, if_false, ite_true, ite_false, reduceIte, loadAt, loadA, AV.cells, AV.one, List.all_cons, List.all_nil, ofV, ofCell, plain, List.getElem?_cons_zero, List.getElem?_cons_succ, List.getElem?_toArray, Option.getD_some, Bool.not_true, Bool.not_false, Bool.false_eq_true, Bool.and_true, Bool.true_and, Bool.and_self, Nat.zero_add, Option.map_some, Option.bind_some, List.map_cons, List.map_nil, ev_add, ev_sub, ev_mul, ev_lss, ev_leq, ev_gtr, ev_geq, ev_eql, ev_neq, ev_seql, ev_sneq, ev_sleq, ev_slss, ev_not, ev_min, ev_max, asNat_nat, asNat_zero, asNat_one, asNat_two, asNat_three, vb_len, List.length_cons, List.length_nil, Nat.reduceAdd, Nat.reduceLeDiff, Nat.reduceMul, Int.reduceEq, Int.reduceLT, Int.reduceLE, Int.reduceNeg, Int.reduceAdd, Int.reduceSub, Nat.reduceLT, decide_true, decide_false, not_true_eq_false, not_false_eq_true, and_self, and_true, true_and, storeA, List.take_zero, List.drop_succ_cons, List.drop_zero, List.nil_append, List.append_nil, List.take_succ_cons, List.cons_append, cut_cons, cut_zero, cut_skip, tAt, hHide, hAt, upsAt, List.contains_cons, List.contains_nil, Nat.reduceBEq, Bool.or_true, Bool.true_or, Bool.or_false, Bool.false_or, Bool.or_self, Bool.and_true, Bool.true_and, Bool.and_false, Bool.false_and, beq_self_eq_true (α := Nat), Option.some_beq_some, Option.none_beq_some, Option.some_beq_none, Bool.false_eq_true, List.all_nil, touch, touchB, Nat.sub_self, List.range'_zero, Nat.add_sub_cancel_left, List.range'_one, q2, xp0, yp0, xq0, yq0, xp1, yp1, xq1, yq1, xp2, yp2, xq2, yq2, xp3, yp3, xq3, yq3, xp4, yp4, xq4, yq4, xp5, yp5, xq5, yq5, xp6, yp6, xq6, yq6]
        · simp only [vop, val, argsT, upd_ap, Nat.reduceEqDiff, if_true, if_false, ite_true, ite_false, reduceIte, loadAt, loadA, AV.cells, AV.one, List.all_cons, List.all_nil, ofV, ofCell, plain, List.getElem?_cons_zero, List.getElem?_cons_succ, List.getElem?_toArray, Option.getD_some, Bool.not_true, Bool.not_false, Bool.false_eq_true, Bool.and_true, Bool.true_and, Bool.and_self, Nat.zero_add, Option.map_some, Option.bind_some, List.map_cons, List.map_nil, ev_add, ev_sub, ev_mul, ev_lss, ev_leq, ev_gtr, ev_geq, ev_eql, ev_neq, ev_seql, ev_sneq, ev_sleq, ev_slss, ev_not, ev_min, ev_max, asNat_nat, asNat_zero, asNat_one, asNat_two, asNat_three, vb_len, List.length_cons, List.length_nil, Nat.reduceAdd, Nat.reduceLeDiff, Nat.reduceMul, Int.reduceEq, Int.reduceLT, Int.reduceLE, Int.reduceNeg, Int.reduceAdd, Int.reduceSub, Nat.reduceLT, decide_true, decide_false, not_true_eq_false, not_false_eq_true, and_self, and_true, true_and, storeA, List.take_zero, List.drop_succ_cons, List.drop_zero, List.nil_append, List.append_nil, List.take_succ_cons, List.cons_append, cut_cons, cut_zero, cut_skip, tAt, hHide, hAt, upsAt, List.contains_cons, List.contains_nil, Nat.reduceBEq, Bool.or_true, Bool.true_or, Bool.or_false, Bool.false_or, Bool.or_self, Bool.and_true, Bool.true_and, Bool.and_false, Bool.false_and, beq_self_eq_true (α := Nat), Option.some_beq_some, Option.none_beq_some, Option.some_beq_none, Bool.false_eq_true, List.all_nil, touch, touchB, Nat.sub_self, List.range'_zero, Nat.add_sub_cancel_left, List.range'_one, xp0, yp0, xq0, yq0, xp1, yp1, xq1, yq1, xp2, yp2, xq2, yq2, xp3, yp3, xq3, yq3, xp4, yp4, xq4, yq4, xp5, yp5, xq5, yq5, xp6, yp6, xq6, yq6, encs, enc, List.map_cons, List.map_nil, textV, List.append_nil, List.length_nil]
      · have z1 : ¬ b = n := by omega
        have z2 : (b == n) = false := beq_false_of_ne (by omega)
        have z3 : ¬ n = b := by omega
        have z4 : (n == b) = false := beq_false_of_ne (by omega)
        have z5 : ¬ b = n + 1 := by omega
        have z6 : (b == n + 1) = false := beq_false_of_ne (by omega)
        have z7 : ¬ n + 1 = b := by omega
        have z8 : (n + 1 == b) = false := beq_false_of_ne (by omega)
        have z9 : ¬ 0 = b := by omega
        have z10 : ¬ 1 = b := by omega
        have z11 : ¬ 2 = b := by omega
        have z12 : ¬ b = 0 := by omega
        have z13 : ¬ b = 1 := by omega
        have z14 : ¬ b = 2 := by omega
        have z15 : (b == 2) = false := beq_false_of_ne (by omega)
        have z16 : (2 == b) = false := beq_false_of_ne (by omega)
        rw [List.length_map] at *
        have g1 : (d.length + 1) * 112 ≤ 140737488355328 := by omega
        have g2 : d.length + 1 ≤ 140737488355328 := by omega
        have g3 : d.length * 7 ≤ (encs (d.map textV)).length := by rw [encs_len, List.length_map]; exact Nat.le_refl _
        have g4 : cut (encs (d.map textV)) 0 (d.length * 7) = encs (d.map textV) := by rw [cut, List.drop_zero, List.take_of_length_le (by rw [encs_len, List.length_map]; exact Nat.le_refl _)]
        refine gC1 (wa t1 (wa t2 (wa t5 (wa t20 (wa t21 (wa q0 (wa q2 (wa hb (wa hltk (wa hlt (wa hx (wa w4 (wa xp0 (wa yp0 (wa xq0 (wa yq0 (wa xp1 (wa yp1 (wa xq1 (wa yq1 (wa xp2 (wa yp2 (wa xq2 (wa yq2 (wa xp3 (wa yp3 (wa xq3 (wa yq3 (wa xp4 (wa yp4 (wa xq4 (wa yq4 (wa xp5 (wa yp5 (wa xq5 (wa yq5 (wa xp6 (wa yp6 (wa xq6 (wa yq6 (wa z1 (wa z2 (wa z3 (wa z4 (wa z5 (wa z6 (wa z7 (wa z8 (wa z9 (wa z10 (wa z11 (wa z12 (wa z13 (wa z14 (wa z15 (wa z16 (wa g1 (wa g2 (wa g3 g4))))))))))))))))))))))))))))))))))))))))))))))))))))))))))) (wa h2 trivial) ?_
        refine ⟨r.length, by simp, d ++ [s], r, by rw [hdr]; simp, rfl, by simp only; omega, ?_, ?_, ?_, ?_, ?_, ?_, ?_, .osl (n + 1) 0 (d.length + 1), ?_, .inr ⟨n + 1, by simp, ?_, by omega, by simp only; omega⟩⟩
        · simp only [vop, val, argsT, upd_ap, Nat.reduceEqDiff, if_true, if_false, ite_true, ite_false, reduceIte, loadAt, loadA, AV.cells, AV.one, List.all_cons, List.all_nil, ofV, ofCell, plain, List.getElem?_cons_zero, List.getElem?_cons_succ, List.getElem?_toArray, Option.getD_some, Bool.not_true, Bool.not_false, Bool.false_eq_true, Bool.and_true, Bool.true_and, Bool.and_self, Nat.zero_add, Option.map_some, Option.bind_some, List.map_cons, List.map_nil, ev_add, ev_sub, ev_mul, ev_lss, ev_leq, ev_gtr, ev_geq, ev_eql, ev_neq, ev_seql, ev_sneq, ev_sleq, ev_slss, ev_not, ev_min, ev_max, asNat_nat, asNat_zero, asNat_one, asNat_two, asNat_three, vb_len, List.length_cons, List.length_nil, Nat.reduceAdd, Nat.reduceLeDiff, Nat.reduceMul, Int.reduceEq, Int.reduceLT, Int.reduceLE, Int.reduceNeg, Int.reduceAdd, Int.reduceSub, Nat.reduceLT, decide_true, decide_false, not_true_eq_false, not_false_eq_true, and_self, and_true, true_and, storeA, List.take_zero, List.drop_succ_cons, List.drop_zero, List.nil_append, List.append_nil, List.take_succ_cons, List.cons_append, cut_cons, cut_zero, cut_skip, tAt, hHide, hAt, upsAt, List.contains_cons, List.contains_nil, Nat.reduceBEq, Bool.or_true, Bool.true_or, Bool.or_false, Bool.false_or, Bool.or_self, Bool.and_true, Bool.true_and, Bool.and_false, Bool.false_and, beq_self_eq_true (α := Nat), Option.some_beq_some, Option.none_beq_some, Option.some_beq_none, Bool.false_eq_true, List.all_nil, touch, touchB, Nat.sub_self, List.range'_zero, Nat.add_sub_cancel_left, List.range'_one, t1]
        · simp only [vop, val, argsT, upd_ap, Nat.reduceEqDiff, if_true, if_false, ite_true, ite_false, reduceIte, loadAt, loadA, AV.cells, AV.one, List.all_cons, List.all_nil, ofV, ofCell, plain, List.getElem?_cons_zero, List.getElem?_cons_succ, List.getElem?_toArray, Option.getD_some, Bool.not_true, Bool.not_false, Bool.false_eq_true, Bool.and_true, Bool.true_and, Bool.and_self, Nat.zero_add, Option.map_some, Option.bind_some, List.map_cons, List.map_nil, ev_add, ev_sub, ev_mul, ev_lss, ev_leq, ev_gtr, ev_geq, ev_eql, ev_neq, ev_seql, ev_sneq, ev_sleq, ev_slss, ev_not, ev_min, ev_max, asNat_nat, asNat_zero, asNat_one, asNat_two, asNat_three, vb_len, List.length_cons, List.length_nil, Nat.reduceAdd, Nat.reduceLeDiff, Nat.reduceMul, Int.reduceEq, Int.reduceLT, Int.reduceLE, Int.reduceNeg, Int.reduceAdd, Int.reduceSub, Nat.reduceLT, decide_true, decide_false, not_true_eq_false, not_false_eq_true, and_self, and_true, true_and, storeA, List.take_zero, List.drop_succ_cons, List.drop_zero, List.nil_append, List.append_nil, List.take_succ_cons, List.cons_append, cut_cons, cut_zero, cut_skip, tAt, hHide, hAt, upsAt, List.contains_cons, List.contains_nil, Nat.reduceBEq, Bool.or_true, Bool.true_or, Bool.or_false, Bool.false_or, Bool.or_self, Bool.and_true, Bool.true_and, Bool.and_false, Bool.false_and, beq_self_eq_true (α := Nat), Option.some_beq_some, Option.none_beq_some, Option.some_beq_none, Bool.false_eq_true, List.all_nil, touch, touchB, Nat.sub_self, List.range'_zero, Nat.add_sub_cancel_left, List.range'_one, t2]
        · simp only [vop, val, argsT, upd_ap, Nat.reduceEqDiff, if_true, if_false, ite_true, ite_false, reduceIte, loadAt, loadA, AV.cells, AV.one, List.all_cons, List.all_nil, ofV, ofCell, plain, List.getElem?_cons_zero, List.getElem?_cons_succ, List.getElem?_toArray, Option.getD_some, Bool.not_true, Bool.not_false, Bool.false_eq_true, Bool.and_true, Bool.true_and, Bool.and_self, Nat.zero_add, Option.map_some, Option.bind_some, List.map_cons, List.map_nil, ev_add, ev_sub, ev_mul, ev_lss, ev_leq, ev_gtr, ev_geq, ev_eql, ev_neq, ev_seql, ev_sneq, ev_sleq, ev_slss, ev_not, ev_min, ev_max, asNat_nat, asNat_zero, asNat_one, asNat_two, asNat_three, vb_len, List.length_cons, List.length_nil, Nat.reduceAdd, Nat.reduceLeDiff, Nat.reduceMul, Int.reduceEq, Int.reduceLT, Int.reduceLE, Int.reduceNeg, Int.reduceAdd, Int.reduceSub, Nat.reduceLT, decide_true, decide_false, not_true_eq_false, not_false_eq_true, and_self, and_true, true_and, storeA, List.take_zero, List.drop_succ_cons, List.drop_zero, List.nil_append, List.append_nil, List.take_succ_cons, List.cons_append, cut_cons, cut_zero, cut_skip, tAt, hHide, hAt, upsAt, List.contains_cons, List.contains_nil, Nat.reduceBEq, Bool.or_true, Bool.true_or, Bool.or_false, Bool.false_or, Bool.or_self, Bool.and_true, Bool.true_and, Bool.and_false, Bool.false_and, beq_self_eq_true (α := Nat), Option.some_beq_some, Option.none_beq_some, Option.some_beq_none, Bool.false_eq_true, List.all_nil, touch, touchB, Nat.sub_self, List.range'_zero, Nat.add_sub_cancel_left, List.range'_one, t5]
        · simp only [vop, val, argsT, upd_ap, Nat.reduceEqDiff, if_true, if_false, ite_true, ite_false, reduceIte, loadAt, loadA, AV.cells, AV.one, List.all_cons, List.all_nil, ofV, ofCell, plain, List.getElem?_cons_zero, List.getElem?_cons_succ, List.getElem?_toArray, Option.getD_some, Bool.not_true, Bool.not_false, Bool.false_eq_true, Bool.and_true, Bool.true_and, Bool.and_self, Nat.zero_add, Option.map_some, Option.bind_some, List.map_cons, List.map_nil, ev_add, ev_sub, ev_mul, ev_lss, ev_leq, ev_gtr, ev_geq, ev_eql, ev_neq, ev_seql, ev_sneq, ev_sleq, ev_slss, ev_not, ev_min, ev_max, asNat_nat, asNat_zero, asNat_one, asNat_two, asNat_three, vb_len, List.length_cons, List.length_nil, Nat.reduceAdd, Nat.reduceLeDiff, Nat.reduceMul, Int.reduceEq, Int.reduceLT, Int.reduceLE, Int.reduceNeg, Int.reduceAdd, Int.reduceSub, Nat.reduceLT, decide_true, decide_false, not_true_eq_false, not_false_eq_true, and_self, and_true, true_and, storeA, List.take_zero, List.drop_succ_cons, List.drop_zero, List.nil_append, List.append_nil, List.take_succ_cons, List.cons_append, cut_cons, cut_zero, cut_skip, tAt, hHide, hAt, upsAt, List.contains_cons, List.contains_nil, Nat.reduceBEq, Bool.or_true, Bool.true_or, Bool.or_false, Bool.false_or, Bool.or_self, Bool.and_true, Bool.true_and, Bool.and_false, Bool.false_and, beq_self_eq_true (α := Nat), Option.some_beq_some, Option.none_beq_some, Option.some_beq_none, Bool.false_eq_true, List.all_nil, touch, touchB, Nat.sub_self, List.range'_zero, Nat.add_sub_cancel_left, List.range'_one, t20]
        · simp [upd_ap]
        · simp only [vop, val, argsT, upd_ap, Nat.reduceEqDiff, if_true, if_false, ite_true, ite_false, reduceIte, loadAt, loadA, AV.cells, AV.one, List.all_cons, List.all_nil, ofV, ofCell, plain, List.getElem?_cons_zero, List.getElem?_cons_succ, List.getElem?_toArray, Option.getD_some, Bool.not_true, Bool.not_false, Bool.false_eq_true, Bool.and_true, Bool.true_and, Bool.and_self, Nat.zero_add, Option.map_some, Option.bind_some, List.map_cons, List.map_nil, ev_add, ev_sub, ev_mul, ev_lss, ev_leq, ev_gtr, ev_geq, ev_eql, ev_neq, ev_seql, ev_sneq, ev_sleq, ev_slss, ev_not, ev_min, ev_max, asNat_nat, asNat_zero, asNat_one, asNat_two, asNat_three, vb_len, List.length_cons, List.length_nil, Nat.reduceAdd, Nat.reduceLeDiff, Nat.reduceMul, Int.reduceEq, Int.reduceLT, Int.reduceLE, Int.reduceNeg, Int.reduceAdd, Int.reduceSub, Nat.reduceLT, decide_true, decide_false, not_true_eq_false, not_false_eq_true, and_self, and_true, true_and, storeA, List.take_zero, List.drop_succ_cons, List.drop_zero, List.nil_append, List.append_nil, List.take_succ_cons, List.cons_append, cut_cons, cut_zero, cut_skip, tAt, hHide, hAt, upsAt, List.contains_cons, List.contains_nil, Nat.reduceBEq, Bool.or_true, Bool.true_or, Bool.or_false, Bool.false_or, Bool.or_self, Bool.and_true, Bool.true_and, Bool.and_false, Bool.false_and, beq_self_eq_true (α := Nat), Option.some_beq_some, Option.none_beq_some, Option.some_beq_none, Bool.false_eq_true, List.all_nil, touch, touchB, Nat.sub_self, List.range'_zero, Nat.add_sub_cancel_left, List.range'_one, q0, xp0, yp0, xq0, yq0, xp1, yp1, xq1, yq1, xp2, yp2, xq2, yq2, xp3, yp3, xq3, yq3, xp4, yp4, xq4, yq4, xp5, yp5, xq5, yq5, xp6, yp6, xq6, yq6, z1, z2, z3, z4, z5, z6, z7, z8, z9, z10, z11, z12, z13, z14, z15, z16]
        · simp only [vop, val, argsT, upd_ap, Nat.reduceEqDiff, if_true, if_false, ite_true, ite_false, reduceIte, loadAt, loadA, AV.cells, AV.one, List.all_cons, List.all_nil, ofV, ofCell, plain, List.getElem?_cons_zero, List.getElem?_cons_succ, List.getElem?_toArray, Option.getD_some, Bool.not_true, Bool.not_false, Bool.false_eq_true, Bool.and_true, Bool.true_and, Bool.and_self, Nat.zero_add, Option.map_some, Option.bind_some, List.map_cons, List.map_nil, ev_add, ev_sub, ev_mul, ev_lss, ev_leq, ev_gtr, ev_geq, ev_eql, ev_neq, ev_seql, ev_sneq, ev_sleq, ev_slss, ev_not, ev_min, ev_max, asNat_nat, asNat_zero, asNat_one, asNat_two, asNat_three, vb_len, List.length_cons, List.length_nil, Nat.reduceAdd, Nat.reduceLeDiff, Nat.reduceMul, Int.reduceEq, Int.reduceLT, Int.reduceLE, Int.reduceNeg, Int.reduceAdd, Int.reduceSub, Nat.reduceLT, decide_true, decide_false, not_true_eq_false, not_false_eq_true, and_self, and_true, true_and, storeA, List.take_zero, List.drop_succ_cons, List.drop_zero, List.nil_append, List.append_nil, List.take_succ_cons, List.cons_append, cut_cons, cut_zero, cut_skip, tAt, hHide, hAt, upsAt, List.contains_cons, List.contains_nil, Nat.reduceBEq, Bool.or_true, Bool.true_or, Bool.or_false, Bool.false_or, Bool.or_self, Bool.and_true, Bool.true_and, Bool.and_false, Bool.false_and, beq_self_eq_true (α := Nat), Option.some_beq_some, Option.none_beq_some, Option.some_beq_none, Bool.false_eq_true, List.all_nil, touch, touchB, Nat.sub_self, List.range'_zero, Nat.add_sub_cancel_left, List.range'_one, r1, xp0, yp0, xq0, yq0, xp1, yp1, xq1, yq1, xp2, yp2, xq2, yq2, xp3, yp3, xq3, yq3, xp4, yp4, xq4, yq4, xp5, yp5, xq5, yq5, xp6, yp6, xq6, yq6, z1, z2, z3, z4, z5, z6, z7, z8, z9, z10, z11, z12, z13, z14, z15, z16]
        · simp only [vop, val, argsT, upd_ap, Nat.reduceEqDiff, if_true, if_false, ite_true, ite_false, reduceIte, loadAt, loadA, AV.cells, AV.one, List.all_cons, List.all_nil, ofV, ofCell, plain, List.getElem?_cons_zero, List.getElem?_cons_succ, List.getElem?_toArray, Option.getD_some, Bool.not_true, Bool.not_false, Bool.false_eq_true, Bool.and_true, Bool.true_and, Bool.and_self, Nat.zero_add, Option.map_some, Option.bind_some, List.map_cons, List.map_nil, ev_add, ev_sub, ev_mul, ev_lss, ev_leq, ev_gtr, ev_geq, ev_eql, ev_neq, ev_seql, ev_sneq, ev_sleq, ev_slss, ev_not, ev_min, ev_max, asNat_nat, asNat_zero, asNat_one, asNat_two, asNat_three, vb_len, List.length_cons, List.length_nil, Nat.reduceAdd, Nat.reduceLeDiff, Nat.reduceMul, Int.reduceEq, Int.reduceLT, Int.reduceLE, Int.reduceNeg, Int.reduceAdd, Int.reduceSub, Nat.reduceLT, decide_true, decide_false, not_true_eq_false, not_false_eq_true, and_self, and_true, true_and, storeA, List.take_zero, List.drop_succ_cons, List.drop_zero, List.nil_append, List.append_nil, List.take_succ_cons, List.cons_append, cut_cons, cut_zero, cut_skip, tAt, hHide, hAt, upsAt, List.contains_cons, List.contains_nil, Nat.reduceBEq, Bool.or_true, Bool.true_or, Bool.or_false, Bool.false_or, Bool.or_self, Bool.and_true, Bool.true_and, Bool.and_false, Bool.false_and, beq_self_eq_true (α := Nat), Option.some_beq_some, Option.none_beq_some, Option.some_beq_none, Bool.false_eq_true, List.all_nil, touch, touchB, Nat.sub_self, List.range'_zero, Nat.add_sub_cancel_left, List.range'_one, q2, xp0, yp0, xq0, yq0, xp1, yp1, xq1, yq1, xp2, yp2, xq2, yq2, xp3, yp3, xq3, yq3, xp4, yp4, xq4, yq4, xp5, yp5, xq5, yq5, xp6, yp6, xq6, yq6, z1, z2, z3, z4, z5, z6, z7, z8, z9, z10, z11, z12, z13, z14, z15, z16]
        · simp only [vop, val, argsT, upd_ap, Nat.reduceEqDiff, if_true, if_false, ite_true, ite_false, reduceIte, loadAt, loadA, AV.cells, AV.one, List.all_cons, List.all_nil, ofV, ofCell, plain, List.getElem?_cons_zero, List.getElem?_cons_succ, List.getElem?_toArray, Option.getD_some, Bool.not_true, Bool.not_false, Bool.false_eq_true, Bool.and_true, Bool.true_and, Bool.and_self, Nat.zero_add, Option.map_some, Option.bind_some, List.map_cons, List.map_nil, ev_add, ev_sub, ev_mul, ev_lss, ev_leq, ev_gtr, ev_geq, ev_eql, ev_neq, ev_seql, ev_sneq, ev_sleq, ev_slss, ev_not, ev_min, ev_max, asNat_nat, asNat_zero, asNat_one, asNat_two, asNat_three, vb_len, List.length_cons, List.length_nil, Nat.reduceAdd, Nat.reduceLeDiff, Nat.reduceMul, Int.reduceEq, Int.reduceLT, Int.reduceLE, Int.reduceNeg, Int.reduceAdd, Int.reduceSub, Nat.reduceLT, decide_true, decide_false, not_true_eq_false, not_false_eq_true, and_self, and_true, true_and, storeA, List.take_zero, List.drop_succ_cons, List.drop_zero, List.nil_append, List.append_nil, List.take_succ_cons, List.cons_append, cut_cons, cut_zero, cut_skip, tAt, hHide, hAt, upsAt, List.contains_cons, List.contains_nil, Nat.reduceBEq, Bool.or_true, Bool.true_or, Bool.or_false, Bool.false_or, Bool.or_self, Bool.and_true, Bool.true_and, Bool.and_false, Bool.false_and, beq_self_eq_true (α := Nat), Option.some_beq_some, Option.none_beq_some, Option.some_beq_none, Bool.false_eq_true, List.all_nil, touch, touchB, Nat.sub_self, List.range'_zero, Nat.add_sub_cancel_left, List.range'_one, xp0, yp0, xq0, yq0, xp1, yp1, xq1, yq1, xp2, yp2, xq2, yq2, xp3, yp3, xq3, yq3, xp4, yp4, xq4, yq4, xp5, yp5, xq5, yq5, xp6, yp6, xq6, yq6, z1, z2, z3, z4, z5, z6, z7, z8, z9, z10, z11, z12, z13, z14, z15, z16]
          simp only [List.map_append, List.map_cons, List.map_nil]
          rw [← encs_snoc]
          rfl
end Go.Proofs.Bv
namespace Go.Proofs.Bv
open Go
set_option maxHeartbeats 8000000 in
set_option maxRecDepth 100000 in
theorem pc16N (G : Nat → Option (List AV)) (ng : Bool) (cf : List Int) (ex : Int) (t : ByteArray) (l : List JV) (ks : List ByteArray)
    (hv : Fit (.mk 5 ng cf ex t l ks)) (hc : chk (.mk 5 ng cf ex t l ks) = 0) (hk : l.length ≤ 4096) :
    Pc (Cf G) 16 [.agg (enc (.mk 5 ng cf ex t l ks))] (.tup [.agg (enc (.mk 5 false [] 0 ⟨#[]⟩ ((List.range l.length).map numV) [])), .sc (.int .i64 0)]) := by
  have h1 := pc44 G (.mk 5 ng cf ex t l ks) hv
  rw [hc] at h1
  simp only [enc] at h1 ⊢
  refine Pc_of (Gf_enter (C := Cf G) Tryz.func16 rfl ok16 (Nat.le_of_ble_eq_true rfl) ?_)
  simp only [Tryz.f16, Option.getD_some]
  refine wC1 trivial (wa h1 trivial) ?_
  refine Gc_loop_inv (fun m st => ∃ k, k + m = l.length ∧ 3 ≤ st.n ∧ st.T 1 = .ptr 0 0 ∧ st.T 2 = .ptr 1 0 ∧ st.T 5 = .ptr 2 0 ∧ st.T 20 = .sc (.int .i64 l.length) ∧ st.T 21 = .sc (.int .i64 k) ∧
    st.h 0 = some (.cells [.sc (.int .i64 5), .sc (.bool ng), .psl (u32s cf) cf.length, .sc (.int .i64 ex), .sc (.string t), .psl (encs l) l.length, .psl (strs ks) ks.length] 0 false) ∧
    st.h 1 = some (.cells [.sc (.int .i64 0), .sc (.bool false), .nilS, .sc (.int .i64 0), .sc (.string ⟨#[]⟩), .nilS, .nilS] 0 false) ∧
    ∃ x, st.h 2 = some (.cells [.sc (.int .i64 5), .sc (.bool false), .nilS, .sc (.int .i64 0), .sc (.string ⟨#[]⟩), x, .nilS] 0 false) ∧ OwnV x st.h st.n 3 ((List.range k).map numV)) ?_ l.length _ ⟨0, Nat.zero_add _, Nat.le_refl _, rfl, rfl, rfl, rfl, rfl, rfl, rfl, .nilS, rfl, .inl ⟨rfl, rfl⟩⟩
  · rintro m ⟨T, h, n⟩ ⟨k, hkm, hn3, t1, t2, t5, t20, t21, q0, r1, x, q2, ho⟩
    simp only at hn3 t1 t2 t5 t20 t21 q0 r1 q2 ho
    cases m with
    | zero =>
      have e : k = l.length := by omega
      have hge : ¬ (k : Int) < (l.length : Int) := by omega
      rw [← e]
      rcases ho with ⟨rfl, hd0⟩ | ⟨b, rfl, hb, hb3, hbn⟩
      · have hd1 : k = 0 := by simpa using hd0
        refine wB1 (wa t1 (wa t2 (wa t5 (wa t20 (wa t21 (wa q0 (wa r1 (wa q2 hge)))))))) ?_
        rw [hd1]
        simp only [one1, frz_t, frz_a, mapF, frz_s, frz_n, Option.map_some, List.append_nil]
        rfl
      · have z1 : ¬ b = 1 := by omega
        have z2 : ¬ b = 2 := by omega
        have z3 : ¬ b = 0 := by omega
        refine wB1 (wa t1 (wa t2 (wa t5 (wa t20 (wa t21 (wa q0 (wa r1 (wa q2 (wa hge (wa hb (wa z1 (wa z2 z3)))))))))))) ?_
        simp only [one1, frz_t, frz_a, mapF, frz_s, frz_n, Option.map_some, List.append_nil]
        rw [frz_w (es := 7) (fz := false) (cs := encs ((List.range k).map numV)) (by simp only [upd_ap, if_neg z1]; exact hb) (by rw [encs_len]; rfl) (encs_pur _)]
        rfl
    | succ m =>
      have hlt : (k : Int) < (l.length : Int) := by omega
      have h2 := pc51 G k (by omega)
      simp only [numV, enc, encs, List.length_nil] at h2
      have w4 : IntKind.i64.wrap ((k : Int) + 1) = (k : Int) + 1 := i64 (by omega) (by omega)
      have xp0 : ¬ 0 = n := by omega
      have yp0 : (0 == n) = false := beq_false_of_ne (by omega)
      have xq0 : ¬ n = 0 := by omega
      have yq0 : (n == 0) = false := beq_false_of_ne (by omega)
      have xp1 : ¬ 1 = n := by omega
      have yp1 : (1 == n) = false := beq_false_of_ne (by omega)
      have xq1 : ¬ n = 1 := by omega
      have yq1 : (n == 1) = false := beq_false_of_ne (by omega)
      have xp2 : ¬ 2 = n := by omega
      have yp2 : (2 == n) = false := beq_false_of_ne (by omega)
      have xq2 : ¬ n = 2 := by omega
      have yq2 : (n == 2) = false := beq_false_of_ne (by omega)
      have xp3 : ¬ 0 = n + 1 := by omega
      have yp3 : (0 == n + 1) = false := beq_false_of_ne (by omega)
      have xq3 : ¬ n + 1 = 0 := by omega
      have yq3 : (n + 1 == 0) = false := beq_false_of_ne (by omega)
      have xp4 : ¬ 1 = n + 1 := by omega
      have yp4 : (1 == n + 1) = false := beq_false_of_ne (by omega)
      have xq4 : ¬ n + 1 = 1 := by omega
      have yq4 : (n + 1 == 1) = false := beq_false_of_ne (by omega)
      have xp5 : ¬ 2 = n + 1 := by omega
      have yp5 : (2 == n + 1) = false := beq_false_of_ne (by omega)
      have xq5 : ¬ n + 1 = 2 := by omega
      have yq5 : (n + 1 == 2) = false := beq_false_of_ne (by omega)
      have xp6 : ¬ n = n + 1 := by omega
      have yp6 : (n == n + 1) = false := beq_false_of_ne (by omega)
      have xq6 : ¬ n + 1 = n := by omega
      have yq6 : (n + 1 == n) = false := beq_false_of_ne (by omega)
      rcases ho with ⟨rfl, hd0⟩ | ⟨b, rfl, hb, hb3, hbn⟩
      · refine gC1 (wa t1 (wa t2 (wa t5 (wa t20 (wa t21 (wa q0 (wa q2 (wa hlt (wa w4 (wa xp0 (wa yp0 (wa xq0 (wa yq0 (wa xp1 (wa yp1 (wa xq1 (wa yq1 (wa xp2 (wa yp2 (wa xq2 (wa yq2 (wa xp3 (wa yp3 (wa xq3 (wa yq3 (wa xp4 (wa yp4 (wa xq4 (wa yq4 (wa xp5 (wa yp5 (wa xq5 (wa yq5 (wa xp6 (wa yp6 (wa xq6 yq6)))))))))))))))))))))))))))))))))))) (wa h2 trivial) ?_
        have hd1 : k = 0 := by simpa using hd0
        subst hd1
        refine ⟨m, by omega, 1, by omega, by simp only; omega, ?_, ?_, ?_, ?_, ?_, ?_, ?_, .osl (n + 1) 0 1, ?_, .inr ⟨n + 1, rfl, ?_, by omega, by simp only; omega⟩⟩
        · simp only [vop, val, argsT, upd_ap, Nat.reduceEqDiff, if_true, if_false, ite_true, ite_false, reduceIte, loadAt, loadA, AV.cells, AV.one, List.all_cons, List.all_nil, ofV, ofCell, plain, List.getElem?_cons_zero, List.getElem?_cons_succ, List.getElem?_toArray, Option.getD_some, Bool.not_true, Bool.not_false, Bool.false_eq_true, Bool.and_true, Bool.true_and, Bool.and_self, Nat.zero_add, Option.map_some, Option.bind_some, List.map_cons, List.map_nil, ev_add, ev_sub, ev_mul, ev_lss, ev_leq, ev_gtr, ev_geq, ev_eql, ev_neq, ev_seql, ev_sneq, ev_sleq, ev_slss, ev_not, ev_min, ev_max, asNat_nat, asNat_zero, asNat_one, asNat_two, asNat_three, vb_len, List.length_cons, List.length_nil, Nat.reduceAdd, Nat.reduceLeDiff, Nat.reduceMul, Int.reduceEq, Int.reduceLT, Int.reduceLE, Int.reduceNeg, Int.reduceAdd, Int.reduceSub, Nat.reduceLT, decide_true, decide_false, not_true_eq_false, not_false_eq_true, and_self, and_true, true_and, storeA, List.take_zero, List.drop_succ_cons, List.drop_zero, List.nil_append, List.append_nil, List.take_succ_cons, List.cons_append, cut_cons, cut_zero, cut_skip, tAt, hHide, hAt, upsAt, List.contains_cons, List.contains_nil, Nat.reduceBEq, Bool.or_true, Bool.true_or, Bool.or_false, Bool.false_or, Bool.or_self, Bool.and_true, Bool.true_and, Bool.and_false, Bool.false_and, beq_self_eq_true (α := Nat), Option.some_beq_some, Option.none_beq_some, Option.some_beq_none, Bool.false_eq_true, List.all_nil, touch, touchB, Nat.sub_self, List.range'_zero, Nat.add_sub_cancel_left, List.range'_one, t1]
        · simp only [vop, val, argsT, upd_ap, Nat.reduceEqDiff, if_true, if_false, ite_true, ite_false, reduceIte, loadAt, loadA, AV.cells, AV.one, List.all_cons, List.all_nil, ofV, ofCell, plain, List.getElem?_cons_zero, List.getElem?_cons_succ, List.getElem?_toArray, Option.getD_some, Bool.not_true, Bool.not_false, Bool.false_eq_true, Bool.and_true, Bool.true_and, Bool.and_self, Nat.zero_add, Option.map_some, Option.bind_some, List.map_cons, List.map_nil, ev_add, ev_sub, ev_mul, ev_lss, ev_leq, ev_gtr, ev_geq, ev_eql, ev_neq, ev_seql, ev_sneq, ev_sleq, ev_slss, ev_not, ev_min, ev_max, asNat_nat, asNat_zero, asNat_one, asNat_two, asNat_three, vb_len, List.length_cons, List.length_nil, Nat.reduceAdd, Nat.reduceLeDiff, Nat.reduceMul, Int.reduceEq, Int.reduceLT, Int.reduceLE, Int.reduceNeg, Int.reduceAdd, Int.reduceSub, Nat.reduceLT, decide_true, decide_false, not_true_eq_false, not_false_eq_true, and_self, and_true, true_and, storeA, List.take_zero, List.drop_succ_cons, List.drop_zero, List.nil_append, List.append_nil, List.take_succ_cons, List.cons_append, cut_cons, cut_zero, cut_skip, tAt, hHide, hAt, upsAt, List.contains_cons, List.contains_nil, Nat.reduceBEq, Bool.or_true, Bool.true_or, Bool.or_false, Bool.false_or, Bool.or_self, Bool.and_true, Bool.true_and, Bool.and_false, Bool.false_and, beq_self_eq_true (α := Nat), Option.some_beq_some, Option.none_beq_some, Option.some_beq_none, Bool.false_eq_true, List.all_nil, touch, touchB, Nat.sub_self, List.range'_zero, Nat.add_sub_cancel_left, List.range'_one, t2]
        · simp only [vop, val, argsT, upd_ap, Nat.reduceEqDiff, if_true, if_false, ite_true, ite_false, reduceIte, loadAt, loadA, AV.cells, AV.one, List.all_cons, List.all_nil, ofV, ofCell, plain, List.getElem?_cons_zero, List.getElem?_cons_succ, List.getElem?_toArray, Option.getD_some, Bool.not_true, Bool.not_false, Bool.false_eq_true, Bool.and_true, Bool.true_and, Bool.and_self, Nat.zero_add, Option.map_some, Option.bind_some, List.map_cons, List.map_nil, ev_add, ev_sub, ev_mul, ev_lss, ev_leq, ev_gtr, ev_geq, ev_eql, ev_neq, ev_seql, ev_sneq, ev_sleq, ev_slss, ev_not, ev_min, ev_max, asNat_nat, asNat_zero, asNat_one, asNat_two, asNat_three, vb_len, List.length_cons, List.length_nil, Nat.reduceAdd, Nat.reduceLeDiff, Nat.reduceMul, Int.reduceEq, Int.reduceLT, Int.reduceLE, Int.reduceNeg, Int.reduceAdd, Int.reduceSub, Nat.reduceLT, decide_true, decide_false, not_true_eq_false, not_false_eq_true, and_self, and_true, true_and, storeA, List.take_zero, List.drop_succ_cons, List.drop_zero, List.nil_append, List.append_nil, List.take_succ_cons, List.cons_append, cut_cons, cut_zero, cut_skip, tAt, hHide, hAt, upsAt, List.contains_cons, List.contains_nil, Nat.reduceBEq, Bool.or_true, Bool.true_or, Bool.or_false, Bool.false_or, Bool.or_self, Bool.and_true, Bool.true_and, Bool.and_false, Bool.false_and, beq_self_eq_true (α := Nat), Option.some_beq_some, Option.none_beq_some, Option.some_beq_none, Bool.false_eq_true, List.all_nil, touch, touchB, Nat.sub_self, List.range'_zero, Nat.add_sub_cancel_left, List.range'_one, t5]
        · simp only [vop, val, argsT, upd_ap, Nat.reduceEqDiff, if_true, if_false, ite_true, ite_false, reduceIte, loadAt, loadA, AV.cells, AV.one, List.all_cons, List.all_nil, ofV, ofCell, plain, List.getElem?_cons_zero, List.getElem?_cons_succ, List.getElem?_toArray, Option.getD_some, Bool.not_true, Bool.not_false, Bool.false_eq_true, Bool.and_true, Bool.true_and, Bool.and_self, Nat.zero_add, Option.map_some, Option.bind_some, List.map_cons, List.map_nil, ev_add, ev_sub, ev_mul, ev_lss, ev_leq, ev_gtr, ev_geq, ev_eql, ev_neq, ev_seql, ev_sneq, ev_sleq, ev_slss, ev_not, ev_min, ev_max, asNat_nat, asNat_zero, asNat_one, asNat_two, asNat_three, vb_len, List.length_cons, List.length_nil, Nat.reduceAdd, Nat.reduceLeDiff, Nat.reduceMul, Int.reduceEq, Int.reduceLT, Int.reduceLE, Int.reduceNeg, Int.reduceAdd, Int.reduceSub, Nat.reduceLT, decide_true, decide_false, not_true_eq_false, not_false_eq_true, and_self, and_true, true_and, storeA, List.take_zero, List.drop_succ_cons, List.drop_zero, List.nil_append, List.append_nil, List.take_succ_cons, List.cons_append, cut_cons, cut_zero, cut_skip, tAt, hHide, hAt, upsAt, List.contains_cons, List.contains_nil, Nat.reduceBEq, Bool.or_true, Bool.true_or, Bool.or_false, Bool.false_or, Bool.or_self, Bool.and_true, Bool.true_and, Bool.and_false, Bool.false_and, beq_self_eq_true (α := Nat), Option.some_beq_some, Option.none_beq_some, Option.some_beq_none, Bool.false_eq_true, List.all_nil, touch, touchB, Nat.sub_self, List.range'_zero, Nat.add_sub_cancel_left, List.range'_one, t20]
        · simp [upd_ap]
        · simp only [vop, val, argsT, upd_ap, Nat.reduceEqDiff, if_true, if_false, ite_true, ite_false, reduceIte, loadAt, loadA, AV.cells, AV.one, List.all_cons, List.all_nil, ofV, ofCell, plain, List.getElem?_cons_zero, List.getElem?_cons_succ, List.getElem?_toArray, Option.getD_some, Bool.not_true, Bool.not_false, Bool.false_eq_true, Bool.and_true, Bool.true_and, Bool.and_self, Nat.zero_add, Option.map_some, Option.bind_some, List.map_cons, List.map_nil, ev_add, ev_sub, ev_mul, ev_lss, ev_leq, ev_gtr, ev_geq, ev_eql, ev_neq, ev_seql, ev_sneq, ev_sleq, ev_slss, ev_not, ev_min, ev_max, asNat_nat, asNat_zero, asNat_one, asNat_two, asNat_three, vb_len, List.length_cons, List.length_nil, Nat.reduceAdd, Nat.reduceLeDiff, Nat.reduceMul, Int.reduceEq, Int.reduceLT, Int.reduceLE, Int.reduceNeg, Int.reduceAdd, Int.reduceSub, Nat.reduceLT, decide_true, decide_false, not_true_eq_false, not_false_eq_true, and_self, and_true, true_and, storeA, List.take_zero, List.drop_succ_cons, List.drop_zero, List.nil_append, List.append_nil, List.take_succ_cons, List.cons_append, cut_cons, cut_zero, cut_skip, tAt, hHide, hAt, upsAt, List.contains_cons, List.contains_nil, Nat.reduceBEq, Bool.or_true, Bool.true_or, Bool.or_false, Bool.false_or, Bool.or_self, Bool.and_true, Bool.true_and, Bool.and_false, Bool.false_and, beq_self_eq_true (α := Nat), Option.some_beq_some, Option.none_beq_some, Option.some_beq_none, Bool.false_eq_true, List.all_nil, touch, touchB, Nat.sub_self, List.range'_zero, Nat.add_sub_cancel_left, List.range'_one, q0, xp0, yp0, xq0, yq0, xp1, yp1, xq1, yq1, xp2, yp2, xq2, yq2, xp3, yp3, xq3, yq3, xp4, yp4, xq4, yq4, xp5, yp5, xq5, yq5, xp6, yp6, xq6, yq6]
        · simp only [vop, val, argsT, upd_ap, Nat.reduceEqDiff, if_true, if_false, ite_true, ite_false, reduceIte, loadAt, loadA, AV.cells, AV.one, List.all_cons, List.all_nil, ofV, ofCell, plain, List.getElem?_cons_zero, List.getElem?_cons_succ, List.getElem?_toArray, Option.getD_some, Bool.not_true, Bool.not_false, Bool.false_eq_true, Bool.and_true, Bool.true_and, Bool.and_self, Nat.zero_add, Option.map_some, Option.bind_some, List.map_cons, List.map_nil, ev_add, ev_sub, ev_mul, ev_lss, ev_leq, ev_gtr, ev_geq, ev_eql, ev_neq, ev_seql, ev_sneq, ev_sleq, ev_slss, ev_not, ev_min, ev_max, asNat_nat, asNat_zero, asNat_one, asNat_two, asNat_three, vb_len, List.length_cons, List.length_nil, Nat.reduceAdd, Nat.reduceLeDiff, Nat.reduceMul, Int.reduceEq, Int.reduceLT, Int.reduceLE, Int.reduceNeg, Int.reduceAdd, Int.reduceSub, Nat.reduceLT, decide_true, decide_false, not_true_eq_false, not_false_eq_true, and_self, and_true, true_and, storeA, List.take_zero, List.drop_succ_cons, List.drop_zero, List.nil_append, List.append_nil, List.take_succ_cons, List.cons_append, cut_cons, cut_zero, cut_skip, tAt, hHide, hAt, upsAt, List.contains_cons, List.contains_nil, Nat.reduceBEq, Bool.or_true, Bool.true_or, Bool.or_false, Bool.false_or, Bool.or_self, Bool.and_true, Bool.true_and, Bool.and_false, Bool.false_and, beq_self_eq_true (α := Nat), Option.some_beq_some, Option.none_beq_some, Option.some_beq_none, Bool.false_eq_true, List.all_nil, touch, touchB, Nat.sub_self, List.range'_zero, Nat.add_sub_cancel_left, List.range'_one, r1, xp0, yp0, xq0, yq0, xp1, yp1, xq1, yq1, xp2, yp2, xq2, yq2, xp3, yp3, xq3, yq3, xp4, yp4, xq4, yq4, xp5, yp5, xq5, yq5, xp6, yp6, xq6, yq6]
        · simp only [vop, val, argsT, upd_ap, Nat.reduceEqDiff, if_true, if_false, ite_true, ite_false, reduceIte, loadAt, loadA, AV.cells, AV.one, List.all_cons, List.all_nil, ofV, ofCell, plain, List.getElem?_cons_zero, List.getElem?_cons_succ, List.getElem?_toArray, Option.getD_some, Bool.not_true, Bool.not_false, Bool.false_eq_true, Bool.and_true, Bool.true_and, Bool.and_self, Nat.zero_add, Option.map_some, Option.bind_some, List.map_cons, List.map_nil, ev_add, ev_sub, ev_mul, ev_lss, ev_leq, ev_gtr, ev_geq, ev_eql, ev_neq, ev_seql, ev_sneq, ev_sleq, ev_slss, ev_not, ev_min, ev_max, asNat_nat, asNat_zero, asNat_one, asNat_two, asNat_three, vb_len, List.length_cons, List.length_nil, Nat.reduceAdd, Nat.reduceLeDiff, Nat.reduceMul, Int.reduceEq, Int.reduceLT, Int.reduceLE, Int.reduceNeg, Int.reduceAdd, Int.reduceSub, Nat.reduceLT, decide_true, decide_false, not_true_eq_false, not_false_eq_true, and_self, and_true, true_and, storeA, List.take_zero, List.drop_succ_cons, List.drop_zero, List.nil_append, List.append_nil, List.take_succ_cons, List.cons_append, cut_cons, cut_zero, cut_skip, tAt, hHide, hAt, upsAt, List.contains_cons, List.contains_nil, Nat.reduceBEq, Bool.or_true, Bool.true_or, Bool.or_false, Bool.false_or, Bool.or_self, Bool.and_true, Bool.true_and, Bool.and_false, Bool.false_and, beq_self_eq_true (α := Nat), Option.some_beq_some, Option.none_beq_some, Option.some_beq_none, Bool.false_eq_true, List.all_nil, touch, touchB, Nat.sub_self, List.range'_zero, Nat.add_sub_cancel_left, List.range'_one, q2, xp0, yp0, xq0, yq0, xp1, yp1, xq1, yq1, xp2, yp2, xq2, yq2, xp3, yp3, xq3, yq3, xp4, yp4, xq4, yq4, xp5, yp5, xq5, yq5, xp6, yp6, xq6, yq6]
        · simp only [vop, val, argsT, upd_ap, Nat.reduceEqDiff, if_true, if_false, ite_true, ite_false, reduceIte, loadAt, loadA, AV.cells, AV.one, List.all_cons, List.all_nil, ofV, ofCell, plain, List.getElem?_cons_zero, List.getElem?_cons_succ, List.getElem?_toArray, Option.getD_some, Bool.not_true, Bool.not_false, Bool.false_eq_true, Bool.and_true, Bool.true_and, Bool.and_self, Nat.zero_add, Option.map_some, Option.bind_some, List.map_cons, List.map_nil, ev_add, ev_sub, ev_mul, ev_lss, ev_leq, ev_gtr, ev_geq, ev_eql, ev_neq, ev_seql, ev_sneq, ev_sleq, ev_slss, ev_not, ev_min, ev_max, asNat_nat, asNat_zero, asNat_one, asNat_two, asNat_three, vb_len, List.length_cons, List.length_nil, Nat.reduceAdd, Nat.reduceLeDiff, Nat.reduceMul, Int.reduceEq, Int.reduceLT, Int.reduceLE, Int.reduceNeg, Int.reduceAdd, Int.reduceSub, Nat.reduceLT, decide_true, decide_false, not_true_eq_false, not_false_eq_true, and_self, and_true, true_and, storeA, List.take_zero, List.drop_succ_cons, List.drop_zero, List.nil_append, List.append_nil, List.take_succ_cons, List.cons_append, cut_cons, cut_zero, cut_skip, tAt, hHide, hAt, upsAt, List.contains_cons, List.contains_nil, Nat.reduceBEq, Bool.or_true, Bool.true_or, Bool.or_false, Bool.false_or, Bool.or_self, Bool.and_true, Bool.true_and, Bool.and_false, Bool.false_and, beq_self_eq_true (α := Nat), Option.some_beq_some, Option.none_beq_some, Option.some_beq_none, Bool.false_eq_true, List.all_nil, touch, touchB, Nat.sub_self, List.range'_zero, Nat.add_sub_cancel_left, List.range'_one, xp0, yp0, xq0, yq0, xp1, yp1, xq1, yq1, xp2, yp2, xq2, yq2, xp3, yp3, xq3, yq3, xp4, yp4, xq4, yq4, xp5, yp5, xq5, yq5, xp6, yp6, xq6, yq6, encs, enc, List.map_cons, List.map_nil, List.range_one, numV, List.append_nil, List.length_nil]
      · have z1 : ¬ b = n := by omega
        have z2 : (b == n) = false := beq_false_of_ne (by omega)
        have z3 : ¬ n = b := by omega
        have z4 : (n == b) = false := beq_false_of_ne (by omega)
        have z5 : ¬ b = n + 1 := by omega
        have z6 : (b == n + 1) = false := beq_false_of_ne (by omega)
        have z7 : ¬ n + 1 = b := by omega
        have z8 : (n + 1 == b) = false := beq_false_of_ne (by omega)
        have z9 : ¬ 0 = b := by omega
        have z10 : ¬ 1 = b := by omega
        have z11 : ¬ 2 = b := by omega
        have z12 : ¬ b = 0 := by omega
        have z13 : ¬ b = 1 := by omega
        have z14 : ¬ b = 2 := by omega
        have z15 : (b == 2) = false := beq_false_of_ne (by omega)
        have z16 : (2 == b) = false := beq_false_of_ne (by omega)
        obtain ⟨E, hE⟩ : ∃ E, E = (List.range k).map numV := ⟨_, rfl⟩
        have hEl : E.length = k := by rw [hE]; simp
        rw [← hE] at hb q2
        rw [hEl] at q2
        have g1 : (k + 1) * 112 ≤ 140737488355328 := by omega
        have g2 : k + 1 ≤ 140737488355328 := by omega
        have g3 : k * 7 ≤ (encs E).length := by rw [encs_len, hEl]; exact Nat.le_refl _
        have g4 : cut (encs E) 0 (k * 7) = encs E := by rw [cut, List.drop_zero, List.take_of_length_le (by rw [encs_len, hEl]; exact Nat.le_refl _)]
        refine gC1 (wa t1 (wa t2 (wa t5 (wa t20 (wa t21 (wa q0 (wa q2 (wa hb (wa hlt (wa w4 (wa xp0 (wa yp0 (wa xq0 (wa yq0 (wa xp1 (wa yp1 (wa xq1 (wa yq1 (wa xp2 (wa yp2 (wa xq2 (wa yq2 (wa xp3 (wa yp3 (wa xq3 (wa yq3 (wa xp4 (wa yp4 (wa xq4 (wa yq4 (wa xp5 (wa yp5 (wa xq5 (wa yq5 (wa xp6 (wa yp6 (wa xq6 (wa yq6 (wa z1 (wa z2 (wa z3 (wa z4 (wa z5 (wa z6 (wa z7 (wa z8 (wa z9 (wa z10 (wa z11 (wa z12 (wa z13 (wa z14 (wa z15 (wa z16 (wa g1 (wa g2 (wa g3 g4))))))))))))))))))))))))))))))))))))))))))))))))))))))))) (wa h2 trivial) ?_
        refine ⟨m, by omega, k + 1, by omega, by simp only; omega, ?_, ?_, ?_, ?_, ?_, ?_, ?_, .osl (n + 1) 0 (k + 1), ?_, .inr ⟨n + 1, by simp, ?_, by omega, by simp only; omega⟩⟩
        · simp only [vop, val, argsT, upd_ap, Nat.reduceEqDiff, if_true, if_false, ite_true, ite_false, reduceIte, loadAt, loadA, AV.cells, AV.one, List.all_cons, List.all_nil, ofV, ofCell, plain, List.getElem?_cons_zero, List.getElem?_cons_succ, List.getElem?_toArray, Option.getD_some, Bool.not_true, Bool.not_false, Bool.false_eq_true, Bool.and_true, Bool.true_and, Bool.and_self, Nat.zero_add, Option.map_some, Option.bind_some, List.map_cons, List.map_nil, ev_add, ev_sub, ev_mul, ev_lss, ev_leq, ev_gtr, ev_geq, ev_eql, ev_neq, ev_seql, ev_sneq, ev_sleq, ev_slss, ev_not, ev_min, ev_max, asNat_nat, asNat_zero, asNat_one, asNat_two, asNat_three, vb_len, List.length_cons, List.length_nil, Nat.reduceAdd, Nat.reduceLeDiff, Nat.reduceMul, Int.reduceEq, Int.reduceLT, Int.reduceLE, Int.reduceNeg, Int.reduceAdd, Int.reduceSub, Nat.reduceLT, decide_true, decide_false, not_true_eq_false, not_false_eq_true, and_self, and_true, true_and, storeA, List.take_zero, List.drop_succ_cons, List.drop_zero, List.nil_append, List.append_nil, List.take_succ_cons, List.cons_append, cut_cons, cut_zero, cut_skip, tAt, hHide, hAt, upsAt, List.contains_cons, List.contains_nil, Nat.reduceBEq, Bool.or_true, Bool.true_or, Bool.or_false, Bool.false_or, Bool.or_self, Bool.and_true, Bool.true_and, Bool.and_false, Bool.false_and, beq_self_eq_true (α := Nat), Option.some_beq_some, Option.none_beq_some, Option.some_beq_none, Bool.false_eq_true, List.all_nil, touch, touchB, Nat.sub_self, List.range'_zero, Nat.add_sub_cancel_left, List.range'_one, t1]
        · simp only [vop, val, argsT, upd_ap, Nat.reduceEqDiff, if_true, if_false, ite_true, ite_false, reduceIte, loadAt, loadA, AV.cells, AV.one, List.all_cons, List.all_nil, ofV, ofCell, plain, List.getElem?_cons_zero, List.getElem?_cons_succ, List.getElem?_toArray, Option.getD_some, Bool.not_true, Bool.not_false, Bool.false_eq_true, Bool.and_true, Bool.true_and, Bool.and_self, Nat.zero_add, Option.map_some, Option.bind_some, List.map_cons, List.map_nil, ev_add, ev_sub, ev_mul, ev_lss, ev_leq, ev_gtr, ev_geq, ev_eql, ev_neq, ev_seql, ev_sneq, ev_sleq, ev_slss, ev_not, ev_min, ev_max, asNat_nat, asNat_zero, asNat_one, asNat_two, asNat_three, vb_len, List.length_cons, List.length_nil, Nat.reduceAdd, Nat.reduceLeDiff, Nat.reduceMul, Int.reduceEq, Int.reduceLT, Int.reduceLE, Int.reduceNeg, Int.reduceAdd, Int.reduceSub, Nat.reduceLT, decide_true, decide_false, not_true_eq_false, not_false_eq_true, and_self, and_true, true_and, storeA, List.take_zero, List.drop_succ_cons, List.drop_zero, List.nil_append, List.append_nil, List.take_succ_cons, List.cons_append, cut_cons, cut_zero, cut_skip, tAt, hHide, hAt, upsAt, List.contains_cons, List.contains_nil, Nat.reduceBEq, Bool.or_true, Bool.true_or, Bool.or_false, Bool.false_or, Bool.or_self, Bool.and_true, Bool.true_and, Bool.and_false, Bool.false_and, beq_self_eq_true (α := Nat), Option.some_beq_some, Option.none_beq_some, Option.some_beq_none, Bool.false_eq_true, List.all_nil, touch, touchB, Nat.sub_self, List.range'_zero, Nat.add_sub_cancel_left, List.range'_one, t2]
        · simp only [vop, val, argsT, upd_ap, Nat.reduceEqDiff, if_true, if_false, ite_true, ite_false, reduceIte, loadAt, loadA, AV.cells, AV.one, List.all_cons, List.all_nil, ofV, ofCell, plain, List.getElem?_cons_zero, List.getElem?_cons_succ, List.getElem?_toArray, Option.getD_some, Bool.not_true, Bool.not_false, Bool.false_eq_true, Bool.and_true, Bool.true_and, Bool.and_self, Nat.zero_add, Option.map_some, Option.bind_some, List.map_cons, List.map_nil, ev_add, ev_sub, ev_mul, ev_lss, ev_leq, ev_gtr, ev_geq, ev_eql, ev_neq, ev_seql, ev_sneq, ev_sleq, ev_slss, ev_not, ev_min, ev_max, asNat_nat, asNat_zero, asNat_one, asNat_two, asNat_three, vb_len, List.length_cons, List.length_nil, Nat.reduceAdd, Nat.reduceLeDiff, Nat.reduceMul, Int.reduceEq, Int.reduceLT, Int.reduceLE, Int.reduceNeg, Int.reduceAdd, Int.reduceSub, Nat.reduceLT, decide_true, decide_false, not_true_eq_false, not_false_eq_true, and_self, and_true, true_and, storeA, List.take_zero, List.drop_succ_cons, List.drop_zero, List.nil_append, List.append_nil, List.take_succ_cons, List.cons_append, cut_cons, cut_zero, cut_skip, tAt, hHide, hAt, upsAt, List.contains_cons, List.contains_nil, Nat.reduceBEq, Bool.or_true, Bool.true_or, Bool.or_false, Bool.false_or, Bool.or_self, Bool.and_true, Bool.true_and, Bool.and_false, Bool.false_and, beq_self_eq_true (α := Nat), Option.some_beq_some, Option.none_beq_some, Option.some_beq_none, Bool.false_eq_true, List.all_nil, touch, touchB, Nat.sub_self, List.range'_zero, Nat.add_sub_cancel_left, List.range'_one, t5]
        · simp only [vop, val, argsT, upd_ap, Nat.reduceEqDiff, if_true, if_false, ite_true, ite_false, reduceIte, loadAt, loadA, AV.cells, AV.one, List.all_cons, List.all_nil, ofV, ofCell, plain, List.getElem?_cons_zero, List.getElem?_cons_succ, List.getElem?_toArray, Option.getD_some, Bool.not_true, Bool.not_false, Bool.false_eq_true, Bool.and_true, Bool.true_and, Bool.and_self, Nat.zero_add, Option.map_some, Option.bind_some, List.map_cons, List.map_nil, ev_add, ev_sub, ev_mul, ev_lss, ev_leq, ev_gtr, ev_geq, ev_eql, ev_neq, ev_seql, ev_sneq, ev_sleq, ev_slss, ev_not, ev_min, ev_max, asNat_nat, asNat_zero, asNat_one, asNat_two, asNat_three, vb_len, List.length_cons, List.length_nil, Nat.reduceAdd, Nat.reduceLeDiff, Nat.reduceMul, Int.reduceEq, Int.reduceLT, Int.reduceLE, Int.reduceNeg, Int.reduceAdd, Int.reduceSub, Nat.reduceLT, decide_true, decide_false, not_true_eq_false, not_false_eq_true, and_self, and_true, true_and, storeA, List.take_zero, List.drop_succ_cons, List.drop_zero, List.nil_append, List.append_nil, List.take_succ_cons, List.cons_append, cut_cons, cut_zero, cut_skip, tAt, hHide, hAt, upsAt, List.contains_cons, List.contains_nil, Nat.reduceBEq, Bool.or_true, Bool.true_or, Bool.or_false, Bool.false_or, Bool.or_self, Bool.and_true, Bool.true_and, Bool.and_false, Bool.false_and, beq_self_eq_true (α := Nat), Option.some_beq_some, Option.none_beq_some, Option.some_beq_none, Bool.false_eq_true, List.all_nil, touch, touchB, Nat.sub_self, List.range'_zero, Nat.add_sub_cancel_left, List.range'_one, t20]
        · simp [upd_ap]
        · simp only [vop, val, argsT, upd_ap, Nat.reduceEqDiff, if_true, if_false, ite_true, ite_false, reduceIte, loadAt, loadA, AV.cells, AV.one, List.all_cons, List.all_nil, ofV, ofCell, plain, List.getElem?_cons_zero, List.getElem?_cons_succ, List.getElem?_toArray, Option.getD_some, Bool.not_true, Bool.not_false, Bool.false_eq_true, Bool.and_true, Bool.true_and, Bool.and_self, Nat.zero_add, Option.map_some, Option.bind_some, List.map_cons, List.map_nil, ev_add, ev_sub, ev_mul, ev_lss, ev_leq, ev_gtr, ev_geq, ev_eql, ev_neq, ev_seql, ev_sneq, ev_sleq, ev_slss, ev_not, ev_min, ev_max, asNat_nat, asNat_zero, asNat_one, asNat_two, asNat_three, vb_len, List.length_cons, List.length_nil, Nat.reduceAdd, Nat.reduceLeDiff, Nat.reduceMul, Int.reduceEq, Int.reduceLT, Int.reduceLE, Int.reduceNeg, Int.reduceAdd, Int.reduceSub, Nat.reduceLT, decide_true, decide_false, not_true_eq_false, not_false_eq_true, and_self, and_true, true_and, storeA, List.take_zero, List.drop_succ_cons, List.drop_zero, List.nil_append, List.append_nil, List.take_succ_cons, List.cons_append, cut_cons, cut_zero, cut_skip, tAt, hHide, hAt, upsAt, List.contains_cons, List.contains_nil, Nat.reduceBEq, Bool.or_true, Bool.true_or, Bool.or_false, Bool.false_or, Bool.or_self, Bool.and_true, Bool.true_and, Bool.and_false, Bool.false_and, beq_self_eq_true (α := Nat), Option.some_beq_some, Option.none_beq_some, Option.some_beq_none, Bool.false_eq_true, List.all_nil, touch, touchB, Nat.sub_self, List.range'_zero, Nat.add_sub_cancel_left, List.range'_one, q0, xp0, yp0, xq0, yq0, xp1, yp1, xq1, yq1, xp2, yp2, xq2, yq2, xp3, yp3, xq3, yq3, xp4, yp4, xq4, yq4, xp5, yp5, xq5, yq5, xp6, yp6, xq6, yq6, z1, z2, z3, z4, z5, z6, z7, z8, z9, z10, z11, z12, z13, z14, z15, z16]
        · simp only [vop, val, argsT, upd_ap, Nat.reduceEqDiff, if_true, if_false, ite_true, ite_false, reduceIte, loadAt, loadA, AV.cells, AV.one, List.all_cons, List.all_nil, ofV, ofCell, plain, List.getElem?_cons_zero, List.getElem?_cons_succ, List.getElem?_toArray, Option.getD_some, Bool.not_true, Bool.not_false, Bool.false_eq_true, Bool.and_true, Bool.true_and, Bool.and_self, Nat.zero_add, Option.map_some, Option.bind_some, List.map_cons, List.map_nil, ev_add, ev_sub, ev_mul, ev_lss, ev_leq, ev_gtr, ev_geq, ev_eql, ev_neq, ev_seql, ev_sneq, ev_sleq, ev_slss, ev_not, ev_min, ev_max, asNat_nat, asNat_zero, asNat_one, asNat_two, asNat_three, vb_len, List.length_cons, List.length_nil, Nat.reduceAdd, Nat.reduceLeDiff, Nat.reduceMul, Int.reduceEq, Int.reduceLT, Int.reduceLE, Int.reduceNeg, Int.reduceAdd, Int.reduceSub, Nat.reduceLT, decide_true, decide_false, not_true_eq_false, not_false_eq_true, and_self, and_true, true_and, storeA, List.take_zero, List.drop_succ_cons, List.drop_zero, List.nil_append, List.append_nil, List.take_succ_cons, List.cons_append, cut_cons, cut_zero, cut_skip, tAt, hHide, hAt, upsAt, List.contains_cons, List.contains_nil, Nat.reduceBEq, Bool.or_true, Bool.true_or, Bool.or_false, Bool.false_or, Bool.or_self, Bool.and_true, Bool.true_and, Bool.and_false, Bool.false_and, beq_self_eq_true (α := Nat), Option.some_beq_some, Option.none_beq_some, Option.some_beq_none, Bool.false_eq_true, List.all_nil, touch, touchB, Nat.sub_self, List.range'_zero, Nat.add_sub_cancel_left, List.range'_one, r1, xp0, yp0, xq0, yq0, xp1, yp1, xq1, yq1, xp2, yp2, xq2, yq2, xp3, yp3, xq3, yq3, xp4, yp4, xq4, yq4, xp5, yp5, xq5, yq5, xp6, yp6, xq6, yq6, z1, z2, z3, z4, z5, z6, z7, z8, z9, z10, z11, z12, z13, z14, z15, z16]
        · simp only [vop, val, argsT, upd_ap, Nat.reduceEqDiff, if_true, if_false, ite_true, ite_false, reduceIte, loadAt, loadA, AV.cells, AV.one, List.all_cons, List.all_nil, ofV, ofCell, plain, List.getElem?_cons_zero, List.getElem?_cons_succ, List.getElem?_toArray, Option.getD_some, Bool.not_true, Bool.not_false, Bool.false_eq_true, Bool.and_true, Bool.true_and, Bool.and_self, Nat.zero_add, Option.map_some, Option.bind_some, List.map_cons, List.map_nil, ev_add, ev_sub, ev_mul, ev_lss, ev_leq, ev_gtr, ev_geq, ev_eql, ev_neq, ev_seql, ev_sneq, ev_sleq, ev_slss, ev_not, ev_min, ev_max, asNat_nat, asNat_zero, asNat_one, asNat_two, asNat_three, vb_len, List.length_cons, List.length_nil, Nat.reduceAdd, Nat.reduceLeDiff, Nat.reduceMul, Int.reduceEq, Int.reduceLT, Int.reduceLE, Int.reduceNeg, Int.reduceAdd, Int.reduceSub, Nat.reduceLT, decide_true, decide_false, not_true_eq_false, not_false_eq_true, and_self, and_true, true_and, storeA, List.take_zero, List.drop_succ_cons, List.drop_zero, List.nil_append, List.append_nil, List.take_succ_cons, List.cons_append, cut_cons, cut_zero, cut_skip, tAt, hHide, hAt, upsAt, List.contains_cons, List.contains_nil, Nat.reduceBEq, Bool.or_true, Bool.true_or, Bool.or_false, Bool.false_or, Bool.or_self, Bool.and_true, Bool.true_and, Bool.and_false, Bool.false_and, beq_self_eq_true (α := Nat), Option.some_beq_some, Option.none_beq_some, Option.some_beq_none, Bool.false_eq_true, List.all_nil, touch, touchB, Nat.sub_self, List.range'_zero, Nat.add_sub_cancel_left, List.range'_one, q2, xp0, yp0, xq0, yq0, xp1, yp1, xq1, yq1, xp2, yp2, xq2, yq2, xp3, yp3, xq3, yq3, xp4, yp4, xq4, yq4, xp5, yp5, xq5, yq5, xp6, yp6, xq6, yq6, z1, z2, z3, z4, z5, z6, z7, z8, z9, z10, z11, z12, z13, z14, z15, z16]
        · simp only [vop, val, argsT, upd_ap, Nat.reduceEqDiff, if_true, if_false, ite_true, ite_false, reduceIte, loadAt, loadA, AV.cells, AV.one, List.all_cons, List.all_nil, ofV, ofCell, plain, List.getElem?_cons_zero, List.getElem?_cons_succ, List.getElem?_toArray, Option.getD_some, Bool.not_true, Bool.not_false, Bool.false_eq_true, Bool.and_true, Bool.true_and, Bool.and_self, Nat.zero_add, Option.map_some, Option.bind_some, List.map_cons, List.map_nil, ev_add, ev_sub, ev_mul, ev_lss, ev_leq, ev_gtr, ev_geq, ev_eql, ev_neq, ev_seql, ev_sneq, ev_sleq, ev_slss, ev_not, ev_min, ev_max, asNat_nat, asNat_zero, asNat_one, asNat_two, asNat_three, vb_len, List.length_cons, List.length_nil, Nat.reduceAdd, Nat.reduceLeDiff, Nat.reduceMul, Int.reduceEq, Int.reduceLT, Int.reduceLE, Int.reduceNeg, Int.reduceAdd, Int.reduceSub, Nat.reduceLT, decide_true, decide_false, not_true_eq_false, not_false_eq_true, and_self, and_true, true_and, storeA, List.take_zero, List.drop_succ_cons, List.drop_zero, List.nil_append, List.append_nil, List.take_succ_cons, List.cons_append, cut_cons, cut_zero, cut_skip, tAt, hHide, hAt, upsAt, List.contains_cons, List.contains_nil, Nat.reduceBEq, Bool.or_true, Bool.true_or, Bool.or_false, Bool.false_or, Bool.or_self, Bool.and_true, Bool.true_and, Bool.and_false, Bool.false_and, beq_self_eq_true (α := Nat), Option.some_beq_some, Option.none_beq_some, Option.some_beq_none, Bool.false_eq_true, List.all_nil, touch, touchB, Nat.sub_self, List.range'_zero, Nat.add_sub_cancel_left, List.range'_one, xp0, yp0, xq0, yq0, xp1, yp1, xq1, yq1, xp2, yp2, xq2, yq2, xp3, yp3, xq3, yq3, xp4, yp4, xq4, yq4, xp5, yp5, xq5, yq5, xp6, yp6, xq6, yq6, z1, z2, z3, z4, z5, z6, z7, z8, z9, z10, z11, z12, z13, z14, z15, z16]
          rw [List.range_succ, hE]
          simp only [List.map_append, List.map_cons, List.map_nil]
          rw [← encs_snoc]
          rfl
end Go.Proofs.Bv
namespace Go.Proofs.Bv
open Go
set_option maxHeartbeats 4000000 in
set_option maxRecDepth 100000 in
theorem pc16E (G : Nat → Option (List AV)) (k : Int) (ng : Bool) (cf : List Int) (ex : Int) (t : ByteArray) (l : List JV) (ks : List ByteArray)
    (hv : Fit (.mk k ng cf ex t l ks)) (hc : ¬ chk (.mk k ng cf ex t l ks) = 0) :
    Pc (Cf G) 16 [.agg (enc (.mk k ng cf ex t l ks))] (withE nullV (chk (.mk k ng cf ex t l ks))) := by
  have h1 := pc44 G (.mk k ng cf ex t l ks) hv
  generalize chk (.mk k ng cf ex t l ks) = c at *
  simp only [withE, nullV, enc] at h1 ⊢
  refine Pc_of (Gf_enter (C := Cf G) Tryz.func16 rfl ok16 (Nat.le_of_ble_eq_true rfl) ?_)
  simp only [Tryz.f16, Option.getD_some]
  refine wC1 hc (wa h1 trivial) ?_
  simp only [one1, frz_t, frz_a, mapF, frz_s, frz_n, Option.map_some, List.append_nil]
  rfl
set_option maxHeartbeats 4000000 in
set_option maxRecDepth 100000 in
theorem pc16K (G : Nat → Option (List AV)) (k : Int) (ng : Bool) (cf : List Int) (ex : Int) (t : ByteArray) (l : List JV) (ks : List ByteArray)
    (hv : Fit (.mk k ng cf ex t l ks)) (hc : chk (.mk k ng cf ex t l ks) = 0) (hk : k < 5) :
    Pc (Cf G) 16 [.agg (enc (.mk k ng cf ex t l ks))] (withE nullV 41) := by
  have h1 := pc44 G (.mk k ng cf ex t l ks) hv
  rw [hc] at h1
  simp only [withE, nullV, enc] at h1 ⊢
  refine Pc_of (Gf_enter (C := Cf G) Tryz.func16 rfl ok16 (Nat.le_of_ble_eq_true rfl) ?_)
  simp only [Tryz.f16, Option.getD_some]
  refine wC1 hk (wa h1 trivial) ?_
  simp only [one1, frz_t, frz_a, mapF, frz_s, frz_n, Option.map_some, List.append_nil]
  rfl
end Go.Proofs.Bv
namespace Go.Proofs.Bv
open Go
theorem leaf_chk {k : Int} {ng : Bool} {cf : List Int} {ex : Int} {t : ByteArray} (hk : ¬ (k = 5 ∨ k = 6)) (ho : own (.mk k ng cf ex t [] []) = 0) : chk (.mk k ng cf ex t [] []) = 0 := by
  have hd : deep (.mk k ng cf ex t [] []) 1000 = 0 := by
    simp only [deep]
    rw [if_pos (by omega)]
  have hs : size (.mk k ng cf ex t [] []) = 1 := by simp only [size, sizes]; omega
  unfold chk
  rw [hd, hs, if_neg (by omega), if_neg (by omega)]
  simp only [pre, pres, firstErr]
  rw [if_pos ho]
theorem or2_zero {a b : Int} (h : or2 a b = 0) : a = 0 ∧ b = 0 := by
  unfold or2 at h
  split at h <;> simp_all
theorem textsK_zero : (ks : List ByteArray) → (e : Int) → textsK ks e = 0 → e = 0 ∧ ∀ s ∈ ks, letters s = 0
  | [], e, h => ⟨h, by simp⟩
  | k :: r, e, h => by
    simp only [textsK] at h
    obtain ⟨h1, h2⟩ := textsK_zero r _ h
    obtain ⟨h3, h4⟩ := or2_zero h1
    exact ⟨h3, fun s hs => (List.mem_cons.1 hs).elim (fun q => by rw [q]; exact h4) (h2 s)⟩
theorem text_own {s : ByteArray} (h : letters s = 0) : own (textV s) = 0 := by
  simp [textV, own, texts, textsK, h, numOk, used, rises]
theorem num_own {m : Nat} (hm : m ≤ 9223372036854775807) : own (numV m) = 0 := by
  obtain ⟨f1, f2, f3, f6⟩ := int_facts hm
  have hc : chkFrom ⟨#[]⟩ 0 = (0, 0) := by rw [chkFrom, dif_neg (by decide)]; rfl
  have hl : letters ⟨#[]⟩ = 0 := by unfold letters; rw [hc]; rfl
  have hn : noText ⟨#[]⟩ = true := beq_self_eq_true _
  simp [numV, own, texts, textsK, hl, hn, numOk, f6, used, rises]
theorem text_chk {s : ByteArray} (h : letters s = 0) : chk (textV s) = 0 := leaf_chk (by decide) (text_own h)
theorem num_chk {m : Nat} (hm : m ≤ 9223372036854775807) : chk (numV m) = 0 := leaf_chk (by decide) (num_own hm)
end Go.Proofs.Bv
namespace Go.Proofs.Bv
open Go
theorem chk_own1 {v : JV} (h : chk v = 0) : own v = 0 := by
  obtain ⟨k, ng, cf, ex, t, l, ks⟩ := v
  unfold chk at h
  split at h
  · omega
  · split at h
    · omega
    · simp only [pre, firstErr] at h
      split at h
      · assumption
      · assumption
theorem own_said {k : Int} {ng : Bool} {cf : List Int} {ex : Int} {t : ByteArray} {l : List JV} {ks : List ByteArray} (h : own (.mk k ng cf ex t l ks) = 0) :
    (0 ≤ k ∧ k ≤ 6) ∧ l.length ≤ 4096 ∧ (k = 3 → decChk ng cf ex = 0) ∧ (k = 6 → ks.length = l.length) ∧ letters t = 0 ∧ ∀ s ∈ ks, letters s = 0 := by
  simp only [own] at h
  split at h
  · omega
  · rename_i h1
    split at h
    · omega
    · rename_i h2
      split at h
      · omega
      · rename_i h3
        split at h
        · omega
        · rename_i h4
          have ht : texts (.mk k ng cf ex t l ks) = 0 := Decidable.not_not.1 h2
          obtain ⟨t1, t2⟩ := textsK_zero _ _ ht
          have hu : used (.mk k ng cf ex t l ks) = true := by
            cases hq : used (.mk k ng cf ex t l ks)
            · exact absurd (.inr (.inl hq)) h4
            · rfl
          have hn : numOk (.mk k ng cf ex t l ks) = true := by
            cases hq : numOk (.mk k ng cf ex t l ks)
            · exact absurd (.inl hq) h4
            · rfl
          refine ⟨by omega, by omega, fun h => ?_, fun h => ?_, t1, t2⟩
          · simp only [numOk, if_pos h] at hn
            exact of_decide_eq_true hn
          · simp only [used, if_pos h, Bool.and_eq_true] at hu
            have := of_decide_eq_true hu.2
            omega
theorem letters_size {s : ByteArray} (h : letters s = 0) : s.size ≤ 16384 := by
  unfold letters at h
  split at h
  · split at h
    · omega
    · omega
  · contradiction
theorem text_fit {s : ByteArray} (h : letters s = 0) : Fit (textV s) := by
  have := letters_size h
  refine ⟨⟨by decide, by decide, by simp, by simp, by omega, by simp, by simp, by simp⟩, trivial⟩
theorem num_fit {m : Nat} (hm : m ≤ 9223372036854775807) : Fit (numV m) := by
  obtain ⟨f1, f2, ⟨e, f3, f4, f5⟩, f6⟩ := int_facts hm
  have h1 := lim_len 20 _ f2
  refine ⟨⟨by decide, by rw [f3]; omega, lim_limbs _, by omega, by decide, by simp, by simp, by simp⟩, trivial⟩
theorem chks_two {a b : JV} (ha : chk a = 0) (hb : chk b = 0) : chks [a, b] = 0 := by
  simp only [chks, ha, hb, if_true]
end Go.Proofs.Bv
namespace Go.Proofs.Bv
open Go
section
variable {P : Program} {h : Heap} {n t : Nat} {xo yo : Operand}
theorem ev_compl {k : IntKind} {a : Int} : ((toVal (.sc (.int k a))).bind fun u => (pureRun P (Op.unary .xor u)).bind scal) = some (.sc (.int k (k.wrap ((BitVec.ofInt k.bits (if k.signed then -1 else k.max) ^^^ BitVec.ofInt k.bits a).toNat : Int)))) := by
  simp [toVal, Op.unary, Op.intBits, pureRun, scal, plain, bind, pure, Sem.bind]
theorem ev_shr31 {yk : IntKind} {a : Int} : vbin P .shr t xo yo (.sc (.int .u32 a)) (.sc (.int yk 31)) = some (.sc (.int .u32 (a / 2147483648))) := by
  rw [ev_shr (by omega)]
  have : ((2 : Int) ^ (min (31 : Int).toNat IntKind.u32.bits)) = 2147483648 := by decide
  rw [this, Int.fdiv_eq_ediv_of_nonneg _ (by omega)]
end
attribute [go_sem] ev_compl ev_shr31
theorem bv_back (v : BitVec 32) : BitVec.ofInt 32 (IntKind.u32.wrap ((v.toNat : Nat) : Int)) = v := by
  have h := v.isLt
  rw [IntWalk.u32_in _ (by omega)]
  apply BitVec.eq_of_toNat_eq
  rw [BitVec.toNat_ofInt]
  have : (((2 ^ 32 : Nat) : Int)) = 4294967296 := rfl
  rw [this]
  omega
theorem bv_top (v : BitVec 32) : v.toNat / 2147483648 = v.msb.toNat := by
  have h := v.isLt
  rw [BitVec.msb_eq_decide]
  by_cases hq : 2 ^ (32 - 1) ≤ v.toNat
  · rw [decide_eq_true hq]
    simp only [Bool.toNat_true]
    omega
  · rw [decide_eq_false hq]
    simp only [Bool.toNat_false]
    omega
theorem msb_int {x : Int} (h : 0 ≤ x ∧ x ≤ 4294967295) : (BitVec.ofInt 32 x).msb = decide (2147483648 ≤ x) := by
  rw [BitVec.msb_eq_decide, BitVec.toNat_ofInt]
  have : (((2 ^ 32 : Nat) : Int)) = 4294967296 := rfl
  rw [this, decide_eq_decide]
  omega
theorem sub_bit {x y c : Int} (hx : 0 ≤ x ∧ x ≤ 4294967295) (hy : 0 ≤ y ∧ y ≤ 4294967295) (hc : 0 ≤ c ∧ c ≤ 1) :
    (((BitVec.ofInt 32 4294967295 ^^^ BitVec.ofInt 32 x) &&& BitVec.ofInt 32 y) ||| ((BitVec.ofInt 32 4294967295 ^^^ (BitVec.ofInt 32 x ^^^ BitVec.ofInt 32 y)) &&& BitVec.ofInt 32 ((x - y - c) % 4294967296))).toNat / 2147483648 = if x < y + c then 1 else 0 := by
  rw [bv_top]
  simp only [BitVec.msb_or, BitVec.msb_and, BitVec.msb_xor]
  rw [msb_int hx, msb_int hy, msb_int (x := (x - y - c) % 4294967296) (by omega), msb_int (x := 4294967295) (by omega)]
  by_cases a1 : 2147483648 ≤ x <;> by_cases a2 : 2147483648 ≤ y <;> by_cases a3 : 2147483648 ≤ (x - y - c) % 4294967296 <;> by_cases a4 : x < y + c <;>
    simp only [a1, a2, a3, a4, decide_true, decide_false, if_true, if_false] <;> first | rfl | (exfalso; omega)
theorem ok357 : codeOk 25 (Tryz.f357.body.getD .skip) = true := by kernel_rfl
theorem ok343 : codeOk 45 (Tryz.f343.body.getD .skip) = true := by kernel_rfl
set_option maxHeartbeats 4000000 in
set_option maxRecDepth 100000 in
theorem pc357 (G : Nat → Option (List AV)) (x y c : Int) (hx : 0 ≤ x ∧ x ≤ 4294967295) (hy : 0 ≤ y ∧ y ≤ 4294967295) (hc : 0 ≤ c ∧ c ≤ 1) :
    Pc (Cf G) 357 [.sc (.int .u32 x), .sc (.int .u32 y), .sc (.int .u32 c)] (.tup [.sc (.int .u32 ((x - y - c) % 4294967296)), .sc (.int .u32 (if x < y + c then 1 else 0))]) := by
  have m1 : IntKind.u32.wrap (IntKind.u32.wrap (x - y) - c) = (x - y - c) % 4294967296 := by
    rw [IntKind.wrap_u32, IntKind.wrap_u32]
    omega
  have m2 := sub_bit hx hy hc
  refine Pc_of (Gf_enter (C := Cf G) Tryz.func357 rfl ok357 (Nat.le_of_ble_eq_true rfl) ?_)
  simp only [Tryz.f357, Option.getD_some]
  refine wB1 m1 ?_
  simp only [one1, frz_t, mapF, frz_s, Option.map_some, List.append_nil]
  refine congrArg (fun z => some (AV.tup [.sc (.int .u32 ((x - y - c) % 4294967296)), .sc (.int .u32 z)])) ?_
  show IntKind.u32.wrap ((BitVec.ofInt 32 (IntKind.u32.wrap ((BitVec.ofInt 32 (IntKind.u32.wrap ((BitVec.ofInt 32 4294967295 ^^^ BitVec.ofInt 32 x).toNat : Int)) &&& BitVec.ofInt 32 y).toNat : Int)) ||| BitVec.ofInt 32 (IntKind.u32.wrap ((BitVec.ofInt 32 (IntKind.u32.wrap ((BitVec.ofInt 32 4294967295 ^^^ BitVec.ofInt 32 (IntKind.u32.wrap ((BitVec.ofInt 32 x ^^^ BitVec.ofInt 32 y).toNat : Int))).toNat : Int)) &&& BitVec.ofInt 32 ((x - y - c) % 4294967296)).toNat : Int))).toNat : Int) / 2147483648 = _
  simp only [bv_back]
  generalize ((BitVec.ofInt 32 4294967295 ^^^ BitVec.ofInt 32 x) &&& BitVec.ofInt 32 y) ||| ((BitVec.ofInt 32 4294967295 ^^^ (BitVec.ofInt 32 x ^^^ BitVec.ofInt 32 y)) &&& BitVec.ofInt 32 ((x - y - c) % 4294967296)) = v at *
  have hv := v.isLt
  rw [IntWalk.u32_in _ (by omega)]
  split at m2 <;> split <;> omega
def subF : List Int → List Int → Int → List Int
  | [], _, _ => []
  | x :: xs, bs, c => (x - bs.headD 0 - c) % 4294967296 :: subF xs bs.tail (if x < bs.headD 0 + c then 1 else 0)
theorem subF_len : (a b : List Int) → (c : Int) → (subF a b c).length = a.length
  | [], _, _ => rfl
  | x :: xs, b, c => by simp only [subF, List.length_cons, subF_len xs]
theorem subF_nv : (a b : List Int) → (c : Int) → Limbs a → Limbs b → b.length ≤ a.length → 0 ≤ c ∧ c ≤ 1 → nv b + c ≤ nv a → Limbs (subF a b c) ∧ nv (subF a b c) = nv a - nv b - c
  | [], b, c => fun _ _ hl hc hle => by
    obtain rfl : b = [] := List.eq_nil_of_length_eq_zero (by simpa using hl)
    simp only [nv] at hle
    refine ⟨fun _ h => by simp [subF] at h, ?_⟩
    simp only [subF, nv]
    omega
  | x :: xs, b, c => fun ha hb hl hc hle => by
    have h1 := ha.head
    have h2 := headD_rng hb
    have e3 := nv_head b
    have e4 : nv (x :: xs) = x + 4294967296 * nv xs := rfl
    have hk : (0 : Int) ≤ (if x < b.headD 0 + c then 1 else 0) ∧ (if x < b.headD 0 + c then (1 : Int) else 0) ≤ 1 := by split <;> omega
    obtain ⟨e1, e2⟩ := subF_nv xs b.tail (if x < b.headD 0 + c then 1 else 0) ha.tail hb.tl (by rw [List.length_tail]; simp only [List.length_cons] at hl; omega) hk (by split <;> omega)
    refine ⟨Limbs.cons (by omega) e1, ?_⟩
    simp only [subF]
    rw [show nv ((x - b.headD 0 - c) % 4294967296 :: subF xs b.tail (if x < b.headD 0 + c then 1 else 0)) = (x - b.headD 0 - c) % 4294967296 + 4294967296 * nv (subF xs b.tail (if x < b.headD 0 + c then 1 else 0)) from rfl, e2, e4]
    generalize nv b.tail = q at *
    generalize nv xs = p at *
    split <;> omega
set_option maxHeartbeats 4000000 in
set_option maxRecDepth 100000 in
theorem pc343 (G : Nat → Option (List AV)) (A B : List Int) (hAl : A.length * 4 ≤ 140737488355328) (hBl : B.length ≤ 140737488355328) (hA : Limbs A) (hB : Limbs B) :
    Pc (Cf G) 343 [.psl (u32s A) A.length, .psl (u32s B) B.length] (.psl (u32s (trimL (subF A B 0))) (trimL (subF A B 0)).length) := by
  have hc := pc183 G (subF A B 0) (by rw [subF_len]; omega)
  rw [subF_len] at hc
  have h2 : A.length ≤ 140737488355328 := by omega
  refine Pc_of (Gf_enter (C := Cf G) Tryz.func343 rfl ok343 (Nat.le_of_ble_eq_true rfl) ?_)
  simp only [Tryz.f343, Option.getD_some]
  refine wB1 (wa hAl (wa h2 @Nat.zero_le)) ?_
  refine Gc_loop_inv (fun m st => ∃ a1 a2 b2 out c p, A = a1 ++ a2 ∧ m = a2.length ∧ b2 = B.drop a1.length ∧ out.length = a1.length ∧ out ++ subF a2 b2 c = subF A B 0 ∧ 0 ≤ c ∧ c ≤ 1 ∧
    st.T 0 = .psl (u32s A) A.length ∧ st.T 1 = .psl (u32s B) B.length ∧ st.T 5 = .osl p 0 out.length ∧ st.T 6 = .sc (.int .u32 c) ∧ st.T 15 = .psl (u32s A) A.length ∧ st.T 16 = .sc (.int .i64 A.length) ∧ st.T 17 = .sc (.int .i64 a1.length) ∧
    p < st.n ∧ st.h p = some (.cells (u32s out) 1 false)) ?_ A.length _ ⟨[], A, B, [], 0, 0, rfl, rfl, rfl, rfl, rfl, by omega, by omega, ?_⟩
  · rintro m ⟨T, h, n⟩ ⟨a1, a2, b2, out, c, p, hAA, rfl, rfl, hol, hfin, hc0, hc1, t0, t1, t5, t6, t15, t16, t17, hp, q0⟩
    simp only at t0 t1 t5 t6 t15 t16 t17 hp q0
    have hpn : ¬ p = n := by omega
    have hpn1 : ¬ p = n + 1 := by omega
    have hnp : ¬ n = p := by omega
    have hAlen : A.length = a1.length + a2.length := by rw [hAA, List.length_append]
    have g1 : (out.length + 1) * 4 ≤ 140737488355328 ∨ a2 = [] := by
      cases a2 with
      | nil => exact .inr rfl
      | cons x a2 => exact .inl (by simp only [List.length_cons] at hAlen; omega)
    have g3 : out.length * 1 ≤ (u32s out).length := by rw [u32s_len]; omega
    cases a2 with
    | nil =>
      have hge : ¬ (a1.length : Int) < (A.length : Int) := by rw [hAA]; simp
      have e : out = subF A B 0 := by rw [← hfin]; simp [subF]
      have e2 : out.length = A.length := by simp only [List.length_nil] at hAlen; omega
      have e3 : ((u32s out).length = out.length * 1) = True := by rw [u32s_len]; simp
      rw [← e, ← e2] at hc
      rw [← e]
      refine wF1 (wa t0 (wa t1 (wa t5 (wa t6 (wa t15 (wa t16 (wa t17 (wa q0 (wa hge e3))))))))) (wa hc trivial) ?_
      simp only [one1, frz_l, Option.map_some]
    | cons x a2 =>
      have g1 : (out.length + 1) * 4 ≤ 140737488355328 := g1.resolve_right (by simp)
      have g2 : out.length + 1 ≤ 140737488355328 := by omega
      have hlt : (a1.length : Int) < (A.length : Int) := by rw [hAA]; simp; omega
      have hltn : a1.length < A.length := by omega
      have hx := u32s_at (l := A) (k := a1.length) (x := x) (by rw [hAA]; simp)
      have hxl := hA x (by rw [hAA]; simp)
      have w4 : IntKind.i64.wrap ((a1.length : Int) + 1) = (a1.length : Int) + 1 := i64 (by omega) (by omega)
      have hyl := headD_rng (b := B.drop a1.length) (fun y hy => hB y (List.mem_of_mem_drop hy))
      have hadd := pc357 G x ((B.drop a1.length).headD 0) c hxl hyl ⟨hc0, hc1⟩
      have hk : (0 : Int) ≤ (if x < (B.drop a1.length).headD 0 + c then 1 else 0) ∧ (if x < (B.drop a1.length).headD 0 + c then (1 : Int) else 0) ≤ 1 := by split <;> omega
      by_cases hlb : a1.length < B.length
      · have hlbi : (a1.length : Int) < (B.length : Int) := by omega
        have hy := u32s_at (l := B) (k := a1.length) (x := (B.drop a1.length).headD 0) (by rw [List.headD_eq_head?_getD, List.head?_drop, List.getElem?_eq_getElem hlb]; rfl)
        refine wC1 (wa t0 (wa t1 (wa t5 (wa t6 (wa t15 (wa t16 (wa t17 (wa q0 (wa hlt (wa hltn (wa hx (wa hlbi (wa hlb (wa hy (wa w4 (wa hpn (wa hpn1 (wa hnp (wa g1 (wa g2 (wa g3 (wa @cutu @snoc_u)))))))))))))))))))))) (wa hadd trivial) ?_
        refine ⟨a2.length, by simp, a1 ++ [x], a2, (B.drop a1.length).tail, out ++ [(x - (B.drop a1.length).headD 0 - c) % 4294967296], if x < (B.drop a1.length).headD 0 + c then 1 else 0, n + 1, by simp [hAA], rfl, by rw [List.tail_drop]; simp, by simp [hol], ?_, hk.1, hk.2, ?_⟩
        · rw [← hfin]
          simp only [subF, List.append_assoc, List.singleton_append]
        · simp [upd_ap, t0, t1, t15, t16]
      · have hlbi : ¬ (a1.length : Int) < (B.length : Int) := by omega
        have hy0 : (B.drop a1.length).headD 0 = 0 := by rw [List.drop_of_length_le (by omega)]; rfl
        rw [hy0] at hadd
        have hbn : B[a1.length]? = none := List.getElem?_eq_none (by omega)
        refine wC1 (wa t0 (wa t1 (wa t5 (wa t6 (wa t15 (wa t16 (wa t17 (wa q0 (wa hlt (wa hltn (wa hx (wa hlbi (wa w4 (wa hpn (wa hpn1 (wa hnp (wa g1 (wa g2 (wa g3 (wa @cutu @snoc_u)))))))))))))))))))) (wa hadd trivial) ?_
        refine ⟨a2.length, by simp, a1 ++ [x], a2, (B.drop a1.length).tail, out ++ [(x - (B.drop a1.length).headD 0 - c) % 4294967296], if x < (B.drop a1.length).headD 0 + c then 1 else 0, n + 1, by simp [hAA], rfl, by rw [List.tail_drop]; simp, by simp [hol], ?_, hk.1, hk.2, ?_⟩
        · rw [← hfin]
          simp only [subF, List.append_assoc, List.singleton_append]
        · simp [upd_ap, t0, t1, t15, t16, hbn]
  · simp [upd_ap, argsT, u32s]
theorem sub_lim {a b : Nat} (h : b ≤ a) : trimL (subF (lim a) (lim b) 0) = lim (a - b) := by
  obtain ⟨e1, e2⟩ := subF_nv (lim a) (lim b) 0 (lim_limbs a) (lim_limbs b) (lim_mono h) (by omega) (by rw [nv_lim, nv_lim]; omega)
  exact trim_lim e1 (by rw [e2, nv_lim, nv_lim]; omega)
theorem cmpR_lim : (k a b : Nat) → (lim a).length = k → (lim b).length = k → cmpR (lim a) (lim b) = cmpI a b
  | 0, a, b, ha, hb => by
    have h1 := lim_nil.1 (List.eq_nil_of_length_eq_zero ha)
    have h2 := lim_nil.1 (List.eq_nil_of_length_eq_zero hb)
    subst h1; subst h2
    rw [lim_zero]
    simp [cmpR, cmpI]
  | k + 1, a, b, ha, hb => by
    have pa : 0 < a := Nat.pos_of_ne_zero fun e => by rw [e, lim_zero] at ha; simp at ha
    have pb : 0 < b := Nat.pos_of_ne_zero fun e => by rw [e, lim_zero] at hb; simp at hb
    rw [lim_pos pa, List.length_cons] at ha
    rw [lim_pos pb, List.length_cons] at hb
    have ih := cmpR_lim k (a / 4294967296) (b / 4294967296) (by omega) (by omega)
    rw [lim_pos pa, lim_pos pb, cmpR, ih]
    unfold cmpI
    repeat' split
    all_goals omega
theorem cmpL_lim (a b : Nat) : cmpL (lim a) (lim b) = cmpI a b := by
  unfold cmpL
  split
  · rename_i h
    exact cmpR_lim _ a b rfl h.symm
  · rename_i h
    have h1 := @lim_mono a b
    have h2 := @lim_mono b a
    unfold cmpI
    repeat' split
    all_goals omega
end Go.Proofs.Bv
namespace Go.Proofs.Bv
open Go
theorem ok228 : codeOk 19 (Tryz.f228.body.getD .skip) = true := by kernel_rfl
theorem ok299 : codeOk 19 (Tryz.f299.body.getD .skip) = true := by kernel_rfl
theorem ok300 : codeOk 20 (Tryz.f300.body.getD .skip) = true := by kernel_rfl
theorem ok245 : codeOk 15 (Tryz.f245.body.getD .skip) = true := by kernel_rfl
theorem ok244 : codeOk 68 (Tryz.f244.body.getD .skip) = true := by kernel_rfl
theorem ok298 : codeOk 6 (Tryz.f298.body.getD .skip) = true := by kernel_rfl
theorem ok342 : codeOk 19 (Tryz.f342.body.getD .skip) = true := by kernel_rfl
theorem ok297 : codeOk 9 (Tryz.f297.body.getD .skip) = true := by kernel_rfl
theorem ok243 : codeOk 5 (Tryz.f243.body.getD .skip) = true := by kernel_rfl
theorem ok195 : codeOk 28 (Tryz.f195.body.getD .skip) = true := by kernel_rfl
theorem lim_len9 : (k n : Nat) → n < 1000000000 ^ k → (lim n).length ≤ k
  | 0, n, h => by
    have : n = 0 := by simpa using h
    rw [this, lim_zero]
    simp
  | k + 1, n, h => by
    rcases Nat.eq_zero_or_pos n with rfl | h0
    · rw [lim_zero]; simp
    · rw [lim_pos h0, List.length_cons]
      have := lim_len9 k (n / 4294967296) (by rw [Nat.pow_succ] at h; omega)
      omega
theorem lim_256 {n k : Nat} (h : n < 10 ^ k) (hk : k ≤ 2304) : (lim n).length ≤ 256 := by
  have h1 : ∀ m, k ≤ 9 * m → 10 ^ k ≤ (10 ^ 9) ^ m := fun m hm => by
    rw [← Nat.pow_mul]
    exact Nat.pow_le_pow_right (by decide) hm
  exact lim_len9 256 n (Nat.lt_of_lt_of_le h (h1 256 (by omega)))
theorem chk_lim {n : Nat} (h : (lim n).length ≤ 256) : natChk (lim n) = 0 := natChk_lim h
set_option maxRecDepth 100000 in
theorem pc228 (G : Nat → Option (List AV)) (a b : Nat) (ha : (lim a).length ≤ 256) (hb : (lim b).length ≤ 256) (hab : (lim (a + b)).length ≤ 256) : Pc (Cf G) 228 [lsl a, lsl b] (.tup [lsl (a + b), .sc (.int .i64 0)]) := by
  have h1 := pc279 G (lim a) (lim b) (by omega) (by omega)
  rw [natChk_lim ha, natChk_lim hb] at h1
  have h2 := pc181 G (lim a) (lim b) (by omega) (lim_limbs a) (lim_limbs b)
  rw [add_lim] at h2
  have h3 := pc287 G (a + b) hab
  unfold lsl at h3 ⊢
  have h1' : Pc (Cf G) 279 [.psl (u32s (lim a)) (lim a).length, .psl (u32s (lim b)) (lim b).length] (.sc (.int .i64 0)) := h1
  refine Pc_of (Gf_enter (C := Cf G) Tryz.func228 rfl ok228 (Nat.le_of_ble_eq_true rfl) ?_)
  simp only [Tryz.f228, Option.getD_some]
  refine wC1 trivial (wa h1' (wa h2 (wa h3 trivial))) ?_
  simp only [one1, frz_t, mapF, frz_s, frz_l, Option.map_some, List.append_nil]
set_option maxRecDepth 100000 in
theorem pc299 (G : Nat → Option (List AV)) (a b : Nat) (ha : (lim a).length ≤ 256) (hb : (lim b).length ≤ 256) : Pc (Cf G) 299 [lsl a, lsl b] (.tup [.sc (.int .i64 (cmpI a b)), .sc (.int .i64 0)]) := by
  have h1 := pc160 G (lim a) (by omega)
  have h2 := pc160 G (lim b) (by omega)
  rw [natChk_lim ha] at h1
  rw [natChk_lim hb] at h2
  have h3 := pc97 G 0 0
  have h3' : Pc (Cf G) 97 [.psl [.sc (.int .i64 0), .sc (.int .i64 0)] 2] (.sc (.int .i64 0)) := h3
  have h4 := pc327 G (lim a) (lim b) (by omega) (by omega)
  rw [cmpL_lim] at h4
  unfold lsl
  refine Pc_of (Gf_enter (C := Cf G) Tryz.func299 rfl ok299 (Nat.le_of_ble_eq_true rfl) ?_)
  simp only [Tryz.f299, Option.getD_some]
  refine wF1 trivial (wa h1 (wa h2 (wa h3' (wa h4 trivial)))) ?_
  simp only [one1, frz_t, mapF, frz_s, frz_l, Option.map_some, List.append_nil]
set_option maxRecDepth 100000 in
theorem pc300 (G : Nat → Option (List AV)) (a b : Nat) (ha : (lim a).length ≤ 256) (hb : (lim b).length ≤ 256) (hle : b ≤ a) : Pc (Cf G) 300 [lsl a, lsl b] (.tup [lsl (a - b), .sc (.int .i64 0)]) := by
  have h1 := pc279 G (lim a) (lim b) (by omega) (by omega)
  rw [natChk_lim ha, natChk_lim hb] at h1
  have h2 := pc327 G (lim a) (lim b) (by omega) (by omega)
  rw [cmpL_lim] at h2
  have h3 := pc343 G (lim a) (lim b) (by omega) (by omega) (lim_limbs a) (lim_limbs b)
  rw [sub_lim hle] at h3
  have q1 : ¬ cmpI a b < 0 := by unfold cmpI; repeat' split <;> omega
  unfold lsl
  have h1' : Pc (Cf G) 279 [.psl (u32s (lim a)) (lim a).length, .psl (u32s (lim b)) (lim b).length] (.sc (.int .i64 0)) := h1
  refine Pc_of (Gf_enter (C := Cf G) Tryz.func300 rfl ok300 (Nat.le_of_ble_eq_true rfl) ?_)
  simp only [Tryz.f300, Option.getD_some]
  refine wC1 q1 (wa h1' (wa h2 (wa h3 trivial))) ?_
  simp only [one1, frz_t, mapF, frz_s, frz_l, Option.map_some, List.append_nil]
set_option maxHeartbeats 4000000 in
set_option maxRecDepth 100000 in
theorem pc224G (G : Nat → Option (List AV)) (ng : Bool) (n : Nat) (ex low : Int) (e k : Nat) (hex : ex = low + e) (he : e ≤ 2000) (hk : k ≤ 300) (hn : n < 10 ^ k) (hlo : -1000000 ≤ low ∧ low ≤ 1000000) :
    Pc (Cf G) 224 [.agg (encD ng n ex), .sc (.int .i64 low)] (.agg (encD ng (n * 10 ^ e) low)) := by
  have h0 := pc184 G ng n ex
  by_cases hz : n = 0
  · subst hz
    rw [Nat.zero_mul, decide_eq_true rfl] at *
    unfold encD at h0 ⊢
    refine Pc_of (Gf_enter (C := Cf G) Tryz.func224 rfl ok224 (Nat.le_of_ble_eq_true rfl) ?_)
    simp only [Tryz.f224, Option.getD_some]
    refine wC1 trivial (wa h0 trivial) ?_
    simp only [one1, frz_a, mapF, frz_s, frz_l, Option.map_some, List.append_nil]
  · rw [decide_eq_false hz] at h0
    by_cases hx : e = 0
    · subst hx
      rw [Nat.pow_zero, Nat.mul_one]
      have : ex = low := by omega
      subst this
      unfold encD at h0 ⊢
      refine Pc_of (Gf_enter (C := Cf G) Tryz.func224 rfl ok224 (Nat.le_of_ble_eq_true rfl) ?_)
      simp only [Tryz.f224, Option.getD_some]
      refine wC1 trivial (wa h0 trivial) ?_
      simp only [one1, frz_a, mapF, frz_s, frz_l, Option.map_some, List.append_nil]
    · have q1 : ¬ ex = low := by omega
      have w1 : IntKind.i64.wrap (ex - low) = e := by rw [i64 (by omega) (by omega)]; omega
      have p2 : n * 10 ^ e < 10 ^ (k + e) := by
        rw [Nat.pow_add]
        exact Nat.mul_lt_mul_of_pos_right hn (Nat.pow_pos (by decide))
      have b1 := lim_256 hn (by omega)
      have b2 := lim_256 (n := 10 ^ e) (k := e + 1) (Nat.pow_lt_pow_right (by decide) (by omega)) (by omega)
      have b3 := lim_256 p2 (by omega)
      have h1 := pc284 G e (by omega)
      have h2 := pc283 G n (10 ^ e) b1 b2 b3
      have h3 := pc119 G (u32s (lim (10 ^ e))) (lim (10 ^ e)).length 0
      have h4 := pc119 G (u32s (lim (n * 10 ^ e))) (lim (n * 10 ^ e)).length 0
      unfold lsl at h1 h2
      unfold encD at h0 ⊢
      clear p2 hn
      generalize 10 ^ e = T at *
      refine Pc_of (Gf_enter (C := Cf G) Tryz.func224 rfl ok224 (Nat.le_of_ble_eq_true rfl) ?_)
      simp only [Tryz.f224, Option.getD_some]
      refine gC1 (wa q1 w1) (wa h0 (wa h1 (wa h2 (wa h3 (wa h4 trivial))))) ?_
      simp only [one1, frz_a, mapF, frz_s, frz_l, Option.map_some, List.append_nil]
set_option maxHeartbeats 4000000 in
set_option maxRecDepth 100000 in
theorem pc245 (G : Nat → Option (List AV)) (ng : Bool) (n : Nat) (ex : Int) : Pc (Cf G) 245 [.agg (encD ng n ex)] (.agg (encD (!ng && !decide (n = 0)) n ex)) := by
  have h0 := pc184 G ng n ex
  unfold encD at h0 ⊢
  cases ng with
  | true =>
    refine Pc_of (Gf_enter (C := Cf G) Tryz.func245 rfl ok245 (Nat.le_of_ble_eq_true rfl) ?_)
    simp only [Tryz.f245, Option.getD_some]
    refine wC1 trivial (wa h0 trivial) ?_
    simp only [one1, frz_a, mapF, frz_s, frz_l, Option.map_some, List.append_nil]
    rfl
  | false =>
    refine Pc_of (Gf_enter (C := Cf G) Tryz.func245 rfl ok245 (Nat.le_of_ble_eq_true rfl) ?_)
    simp only [Tryz.f245, Option.getD_some]
    refine wC1 trivial (wa h0 trivial) ?_
    simp only [one1, frz_a, mapF, frz_s, frz_l, Option.map_some, List.append_nil]
    rfl
def plusD (n1 n2 : Bool) (A B : Nat) : Bool × Nat := if n1 = n2 then (n1, A + B) else if A < B then (n2, B - A) else (n1, A - B)
set_option maxHeartbeats 8000000 in
set_option maxRecDepth 100000 in
theorem pc244 (G : Nat → Option (List AV)) (n1 n2 : Bool) (a b : Nat) (e1 e2 low : Int) (x1 x2 k : Nat) (h1 : e1 = low + x1) (h2 : e2 = low + x2) (h0 : x1 = 0 ∨ x2 = 0) (hx1 : x1 ≤ 2000) (hx2 : x2 ≤ 2000) (hk : k ≤ 300) (ha : a < 10 ^ k) (hb : b < 10 ^ k) (hlo : -1000000 ≤ low ∧ low ≤ 1000000) :
    Pc (Cf G) 244 [.agg (encD n1 a e1), .agg (encD n2 b e2)] (.agg (encD (plusD n1 n2 (a * 10 ^ x1) (b * 10 ^ x2)).1 (plusD n1 n2 (a * 10 ^ x1) (b * 10 ^ x2)).2 low)) := by
  have c1 := pc224G G n1 a e1 low x1 k h1 hx1 hk ha hlo
  have c2 := pc224G G n2 b e2 low x2 k h2 hx2 hk hb hlo
  have p1 : a * 10 ^ x1 < 10 ^ (k + x1) := by
    rw [Nat.pow_add]
    exact Nat.mul_lt_mul_of_pos_right ha (Nat.pow_pos (by decide))
  have p2 : b * 10 ^ x2 < 10 ^ (k + x2) := by
    rw [Nat.pow_add]
    exact Nat.mul_lt_mul_of_pos_right hb (Nat.pow_pos (by decide))
  have q1 : 10 ^ (k + x1) ≤ 10 ^ (k + 2000) := Nat.pow_le_pow_right (by decide) (by omega)
  have q2 : 10 ^ (k + x2) ≤ 10 ^ (k + 2000) := Nat.pow_le_pow_right (by decide) (by omega)
  have q3 : a * 10 ^ x1 + b * 10 ^ x2 < 10 ^ (k + 2000 + 1) := by rw [Nat.pow_succ]; omega
  have l1 := lim_256 p1 (by omega)
  have l2 := lim_256 p2 (by omega)
  have l3 := lim_256 q3 (by omega)
  have wm : min e1 e2 = low := by omega
  clear p1 p2 q1 q2 q3
  generalize a * 10 ^ x1 = A at *
  generalize b * 10 ^ x2 = B at *
  have cA := pc228 G A B l1 l2 l3
  have cC := pc299 G A B l1 l2
  have cS := fun h => pc300 G A B l1 l2 h
  have cS' := fun h => pc300 G B A l2 l1 h
  have m1 := pc119 G (u32s (lim (A + B))) (lim (A + B)).length 0
  have m2 := pc119 G (u32s (lim (A - B))) (lim (A - B)).length 0
  have m3 := pc119 G (u32s (lim (B - A))) (lim (B - A)).length 0
  unfold plusD
  unfold encD at c1 c2 ⊢
  unfold lsl at cA cC cS cS'
  by_cases hn : n1 = n2
  · subst hn
    rw [if_pos rfl]
    have qn : (n1 == n1) = true := by simp
    clear cS cS' cC m2 m3
    refine Pc_of (Gf_enter (C := Cf G) Tryz.func244 rfl ok244 (Nat.le_of_ble_eq_true rfl) ?_)
    simp only [Tryz.f244, Option.getD_some]
    refine gC1 (wa wm qn) (wa c1 (wa c2 (wa cA (wa m1 trivial)))) ?_
    simp only [one1, frz_a, mapF, frz_s, frz_l, Option.map_some, List.append_nil]
  · rw [if_neg hn]
    have hn' : (n1 == n2) = false := by simpa using hn
    by_cases hlt : A < B
    · rw [if_pos hlt]
      have qc : cmpI (A : Int) (B : Int) = -1 := by unfold cmpI; rw [if_pos (by omega)]
      rw [qc] at cC
      have cS' := cS' (by omega)
      refine Pc_of (Gf_enter (C := Cf G) Tryz.func244 rfl ok244 (Nat.le_of_ble_eq_true rfl) ?_)
      simp only [Tryz.f244, Option.getD_some]
      refine gC1 (wa wm hn') (wa c1 (wa c2 (wa cC (wa cS' (wa m3 trivial))))) ?_
      simp only [one1, frz_a, mapF, frz_s, frz_l, Option.map_some, List.append_nil]
    · rw [if_neg hlt]
      have qc : ¬ cmpI (A : Int) (B : Int) < 0 := by unfold cmpI; rw [if_neg (by omega)]; split <;> omega
      have cS := cS (by omega)
      refine Pc_of (Gf_enter (C := Cf G) Tryz.func244 rfl ok244 (Nat.le_of_ble_eq_true rfl) ?_)
      simp only [Tryz.f244, Option.getD_some]
      refine gC1 (wa wm (wa hn' qc)) (wa c1 (wa c2 (wa cC (wa cS (wa m2 trivial))))) ?_
      simp only [one1, frz_a, mapF, frz_s, frz_l, Option.map_some, List.append_nil]
end Go.Proofs.Bv
namespace Go.Proofs.Bv
open Go
structure DecV (ng : Bool) (n : Nat) (ex : Int) : Prop where
  chk : decChk ng (lim n) ex = 0
  lt : ∃ k, k ≤ 300 ∧ n < 10 ^ k
  rng : -1000 ≤ ex ∧ ex ≤ 1000
  zero : n = 0 → ng = false ∧ ex = 0
theorem lt_pow_dg (n : Nat) : n < 10 ^ (digs n).length := by
  induction n using Nat.strongRecOn with
  | ind n ih =>
    rcases Nat.eq_zero_or_pos n with rfl | h
    · simp [digs_zero]
    · rw [digs_pos h, List.length_cons, Nat.pow_succ]
      have := ih (n / 10) (by omega)
      omega
theorem decV_of {ng : Bool} {n : Nat} {ex : Int} (h : decChk ng (lim n) ex = 0) : DecV ng n ex := by
  have h0 := h
  unfold decChk at h
  split at h
  · simp at h
  · split at h
    · rename_i hz
      have hn : n = 0 := lim_nil.1 (List.eq_nil_of_length_eq_zero (by omega))
      subst hn
      split at h
      · simp at h
      · rename_i hq
        refine ⟨h0, ⟨1, by omega, by simp⟩, by omega, fun _ => ⟨?_, by omega⟩⟩
        cases ng
        · rfl
        · exact absurd (Or.inl rfl) hq
    · rename_i hz
      split at h
      · simp at h
      · rename_i hq
        unfold nDig at hq
        rw [nv_lim, Int.toNat_natCast] at hq
        refine ⟨h0, ⟨(digs n).length, by omega, lt_pow_dg n⟩, by omega, fun e => ?_⟩
        subst e
        rw [lim_zero] at hz
        exact absurd rfl hz
set_option maxRecDepth 100000 in
theorem pc298 (G : Nat → Option (List AV)) (ng : Bool) (n : Nat) (ex : Int) (h : DecV ng n ex) : Pc (Cf G) 298 [.agg (encD ng n ex)] (.sc (.bool false)) := by
  obtain ⟨k, hk, hn⟩ := h.lt
  have hl := lim_256 hn (by omega)
  have h1 := pc102 G ng (lim n) ex (by omega) (lim_limbs n)
  rw [h.chk] at h1
  unfold encD
  refine Pc_of (Gf_enter (C := Cf G) Tryz.func298 rfl ok298 (Nat.le_of_ble_eq_true rfl) ?_)
  simp only [Tryz.f298, Option.getD_some]
  refine wC1 trivial (wa h1 trivial) ?_
  simp only [one1, frz_s, Option.map_some]
set_option maxHeartbeats 4000000 in
set_option maxRecDepth 100000 in
theorem pc342 (G : Nat → Option (List AV)) (n1 n2 : Bool) (a b : Nat) (e1 e2 : Int) (h1 : DecV n1 a e1) (h2 : DecV n2 b e2) :
    Pc (Cf G) 342 [.psl (encD n1 a e1 ++ encD n2 b e2) 2, .fn (.func 298) []] (.sc (.int .i64 (-1))) := by
  have c1 := pc298 G n1 a e1 h1
  have c2 := pc298 G n2 b e2 h2
  unfold encD at c1 c2 ⊢
  simp only [List.cons_append, List.nil_append]
  have w1 : IntKind.i64.wrap 1 = 1 := i64 (by omega) (by omega)
  have w2 : IntKind.i64.wrap 2 = 2 := i64 (by omega) (by omega)
  refine Pc_of (Gf_enter (C := Cf G) Tryz.func342 rfl ok342 (Nat.le_of_ble_eq_true rfl) ?_)
  simp only [Tryz.f342, Option.getD_some]
  refine wB1 trivial ?_
  refine Gc_loop_inv (fun m st => ∃ k : Nat, k + m = 2 ∧ st.T 0 = .psl [.sc (.bool n1), .psl (u32s (lim a)) (lim a).length, .sc (.int .i64 e1), .sc (.bool n2), .psl (u32s (lim b)) (lim b).length, .sc (.int .i64 e2)] 2 ∧ st.T 1 = .fn (.func 298) [] ∧ st.T 7 = .sc (.int .i64 2) ∧ st.T 8 = .sc (.int .i64 k)) ?_ 2 _ ⟨0, rfl, rfl, rfl, rfl, rfl⟩
  rintro m ⟨T, h, n⟩ ⟨k, hkm, t0, t1, t7, t8⟩
  simp only at t0 t1 t7 t8
  have hk : k = 0 ∨ k = 1 ∨ k = 2 := by omega
  rcases hk with rfl | rfl | rfl
  · refine wC1 (wa t0 (wa t1 (wa t7 (wa t8 (wa w1 (wa @Int.zero_add @Nat.zero_mul)))))) (wa c1 trivial) ?_
    refine ⟨1, by omega, 1, by omega, ?_, ?_, ?_, ?_⟩
    all_goals simp [upd_ap, t0, t1, t7]
  · refine wC1 (wa t0 (wa t1 (wa t7 (wa t8 (wa w2 @Int.natCast_one))))) (wa c2 trivial) ?_
    refine ⟨0, by omega, 2, by omega, ?_, ?_, ?_, ?_⟩
    all_goals simp [upd_ap, t0, t1, t7]
  · refine wB1 (wa t0 (wa t1 (wa t7 (wa t8 @Int.cast_ofNat_Int)))) ?_
    simp only [one1, frz_s, Option.map_some]
set_option maxRecDepth 100000 in
theorem pc297 (G : Nat → Option (List AV)) (n1 n2 : Bool) (a b : Nat) (e1 e2 : Int) (h1 : DecV n1 a e1) (h2 : DecV n2 b e2) :
    Pc (Cf G) 297 [.psl (encD n1 a e1 ++ encD n2 b e2) 2, .fn (.func 298) []] (.sc (.bool false)) := by
  have c1 := pc342 G n1 n2 a b e1 e2 h1 h2
  unfold encD at c1 ⊢
  refine Pc_of (Gf_enter (C := Cf G) Tryz.func297 rfl ok297 (Nat.le_of_ble_eq_true rfl) ?_)
  simp only [Tryz.f297, Option.getD_some]
  refine wC1 trivial (wa c1 trivial) ?_
  simp only [one1, frz_s, Option.map_some]
set_option maxRecDepth 100000 in
theorem pc243 (G : Nat → Option (List AV)) (n1 n2 : Bool) (a b : Nat) (e1 e2 : Int) (h1 : DecV n1 a e1) (h2 : DecV n2 b e2) :
    Pc (Cf G) 243 [.psl (encD n1 a e1 ++ encD n2 b e2) 2] (.sc (.int .i64 0)) := by
  have c1 := pc297 G n1 n2 a b e1 e2 h1 h2
  unfold encD at c1 ⊢
  refine Pc_of (Gf_enter (C := Cf G) Tryz.func243 rfl ok243 (Nat.le_of_ble_eq_true rfl) ?_)
  simp only [Tryz.f243, Option.getD_some]
  refine wC1 trivial (wa c1 trivial) ?_
  simp only [one1, frz_s, Option.map_some]
def sgn (ng : Bool) (n : Nat) : Int := if ng then -(n : Int) else n
def cmpD (n1 : Bool) (a : Nat) (e1 : Int) (n2 : Bool) (b : Nat) (e2 : Int) : Int := cmpI (sgn n1 (a * 10 ^ (e1 - min e1 e2).toNat)) (sgn n2 (b * 10 ^ (e2 - min e1 e2).toNat))
theorem plus_cmp (n1 n2 : Bool) (A B : Nat) (h1 : A = 0 → n1 = false) (h2 : B = 0 → n2 = false) :
    cmpI (sgn n1 A) (sgn n2 B) = if (plusD n1 (!n2 && !decide (B = 0)) A B).2 = 0 then 0 else if (plusD n1 (!n2 && !decide (B = 0)) A B).1 = true then -1 else 1 := by
  unfold plusD sgn cmpI
  cases n1 <;> cases n2 <;> by_cases hA : A = 0 <;> by_cases hB : B = 0 <;> simp_all <;> (repeat' split) <;> first | rfl | omega | (simp_all <;> omega)
set_option maxHeartbeats 4000000 in
set_option maxRecDepth 100000 in
theorem pc195 (G : Nat → Option (List AV)) (n1 n2 : Bool) (a b : Nat) (e1 e2 : Int) (h1 : DecV n1 a e1) (h2 : DecV n2 b e2) :
    Pc (Cf G) 195 [.agg (encD n1 a e1), .agg (encD n2 b e2)] (.tup [.sc (.int .i64 (cmpD n1 a e1 n2 b e2)), .sc (.int .i64 0)]) := by
  have c0 := pc243 G n1 n2 a b e1 e2 h1 h2
  have cm := pc245 G n2 b e2
  obtain ⟨k1, hk1, ha⟩ := h1.lt
  obtain ⟨k2, hk2, hb⟩ := h2.lt
  have r1 := h1.rng
  have r2 := h2.rng
  have hak : a < 10 ^ max k1 k2 := Nat.lt_of_lt_of_le ha (Nat.pow_le_pow_right (by decide) (Nat.le_max_left _ _))
  have hbk : b < 10 ^ max k1 k2 := Nat.lt_of_lt_of_le hb (Nat.pow_le_pow_right (by decide) (Nat.le_max_right _ _))
  have cp := pc244 G n1 (!n2 && !decide (b = 0)) a b e1 e2 (min e1 e2) (e1 - min e1 e2).toNat (e2 - min e1 e2).toNat (max k1 k2) (by omega) (by omega) (by omega) (by omega) (by omega) (by omega) hak hbk (by omega)
  have hB : decide (b = 0) = decide (b * 10 ^ (e2 - min e1 e2).toNat = 0) := by
    rw [decide_eq_decide]
    constructor
    · rintro rfl; simp
    · intro h
      exact (Nat.mul_eq_zero.1 h).resolve_right (Nat.pos_iff_ne_zero.1 (Nat.pow_pos (by decide)))
  have z1 : a * 10 ^ (e1 - min e1 e2).toNat = 0 → n1 = false := fun h => (h1.zero ((Nat.mul_eq_zero.1 h).resolve_right (Nat.pos_iff_ne_zero.1 (Nat.pow_pos (by decide))))).1
  have z2 : b * 10 ^ (e2 - min e1 e2).toNat = 0 → n2 = false := fun h => (h2.zero ((Nat.mul_eq_zero.1 h).resolve_right (Nat.pos_iff_ne_zero.1 (Nat.pow_pos (by decide))))).1
  have hp := plus_cmp n1 n2 _ _ z1 z2
  unfold cmpD
  rw [hp]
  rw [hB] at cm cp
  clear hak hbk ha hb hp z1 z2 hB
  generalize a * 10 ^ (e1 - min e1 e2).toNat = A at *
  generalize b * 10 ^ (e2 - min e1 e2).toNat = B at *
  generalize (!n2 && !decide (B = 0)) = s at *
  have c4 := pc184 G (plusD n1 s A B).1 (plusD n1 s A B).2 (min e1 e2)
  generalize plusD n1 s A B = R at *
  obtain ⟨rn, rv⟩ := R
  simp only at cp c4 ⊢
  unfold encD at c0 cm cp c4 ⊢
  simp only [List.cons_append, List.nil_append] at c0
  by_cases hz : rv = 0
  · subst hz
    rw [if_pos rfl]
    refine Pc_of (Gf_enter (C := Cf G) Tryz.func195 rfl ok195 (Nat.le_of_ble_eq_true rfl) ?_)
    simp only [Tryz.f195, Option.getD_some]
    refine gF1 trivial (wa c0 (wa cm (wa cp (wa c4 trivial)))) ?_
    simp only [one1, frz_t, mapF, frz_s, Option.map_some, List.append_nil]
  · rw [if_neg hz]
    rw [decide_eq_false hz] at c4
    cases rn with
    | true =>
      refine Pc_of (Gf_enter (C := Cf G) Tryz.func195 rfl ok195 (Nat.le_of_ble_eq_true rfl) ?_)
      simp only [Tryz.f195, Option.getD_some]
      refine gF1 trivial (wa c0 (wa cm (wa cp (wa c4 trivial)))) ?_
      simp only [one1, frz_t, mapF, frz_s, Option.map_some, List.append_nil]
      rfl
    | false =>
      refine Pc_of (Gf_enter (C := Cf G) Tryz.func195 rfl ok195 (Nat.le_of_ble_eq_true rfl) ?_)
      simp only [Tryz.f195, Option.getD_some]
      refine gF1 trivial (wa c0 (wa cm (wa cp (wa c4 trivial)))) ?_
      simp only [one1, frz_t, mapF, frz_s, Option.map_some, List.append_nil]
      rfl
end Go.Proofs.Bv
namespace Go.Proofs.Bv
open Go
theorem ok242 : codeOk 6 (Tryz.f242.body.getD .skip) = true := by kernel_rfl
theorem ok192 : codeOk 20 (Tryz.f192.body.getD .skip) = true := by kernel_rfl
theorem ok193 : codeOk 36 (Tryz.f193.body.getD .skip) = true := by kernel_rfl
theorem ok194 : codeOk 39 (Tryz.f194.body.getD .skip) = true := by kernel_rfl
theorem ok191 : codeOk 18 (Tryz.f191.body.getD .skip) = true := by kernel_rfl
theorem ok132 : codeOk 47 (Tryz.f132.body.getD .skip) = true := by kernel_rfl
theorem ok73 : codeOk 21 (Tryz.f73.body.getD .skip) = true := by kernel_rfl
theorem pc242 (G : Nat → Option (List AV)) (s : ByteArray) : Pc (Cf G) 242 [.sc (.string s)] (.sc (.bool false)) := by
  have h : (s.toList == s.toList) = true := by simp
  refine Pc_of (Gf_enter (C := Cf G) Tryz.func242 rfl ok242 (Nat.le_of_ble_eq_true rfl) ?_)
  simp only [Tryz.f242, Option.getD_some]
  refine wB1 h ?_
  simp only [one1, frz_s, Option.map_some]
theorem pc192E (G : Nat → Option (List AV)) : Pc (Cf G) 192 [.sc (.string ⟨#[]⟩), .sc (.string ⟨#[]⟩)] (.sc (.int .i64 0)) := by
  have h1 := pc242 G ⟨#[]⟩
  have h2 : Op.bytesLess (ByteArray.mk #[]).toList (ByteArray.mk #[]).toList = false := by rw [ByteArray.toList_eq]; rfl
  refine Pc_of (Gf_enter (C := Cf G) Tryz.func192 rfl ok192 (Nat.le_of_ble_eq_true rfl) ?_)
  simp only [Tryz.f192, Option.getD_some]
  refine wC1 h2 (wa h1 trivial) ?_
  simp only [one1, frz_s, Option.map_some]
theorem pc193E (G : Nat → Option (List AV)) : Pc (Cf G) 193 [.psl [] 0, .psl [] 0] (.sc (.int .i64 0)) := by
  refine Pc_of (Gf_enter (C := Cf G) Tryz.func193 rfl ok193 (Nat.le_of_ble_eq_true rfl) ?_)
  simp only [Tryz.f193, Option.getD_some]
  refine wB1 trivial ?_
  refine st_loop ?_
  refine wB1 trivial ?_
  simp only [one1, frz_s, Option.map_some]
theorem pc194E (G : Nat → Option (List AV)) (g : FuncId) : Pc (Cf G) 194 [.psl [] 0, .psl [] 0, .fn (.func g) []] (.sc (.int .i64 0)) := by
  refine Pc_of (Gf_enter (C := Cf G) Tryz.func194 rfl ok194 (Nat.le_of_ble_eq_true rfl) ?_)
  simp only [Tryz.f194, Option.getD_some]
  refine wB1 trivial ?_
  refine st_loop ?_
  refine wB1 trivial ?_
  simp only [one1, frz_s, Option.map_some]
def or4 (a b c d : Int) : Int := if a ≠ 0 then a else if b ≠ 0 then b else if c ≠ 0 then c else d
theorem pc191 (G : Nat → Option (List AV)) (a : Int) : Pc (Cf G) 191 [.psl [.sc (.int .i64 a), .sc (.int .i64 0), .sc (.int .i64 0), .sc (.int .i64 0)] 4] (.sc (.int .i64 a)) := by
  have w1 : IntKind.i64.wrap 1 = 1 := i64 (by omega) (by omega)
  have w2 : IntKind.i64.wrap 2 = 2 := i64 (by omega) (by omega)
  have w3 : IntKind.i64.wrap 3 = 3 := i64 (by omega) (by omega)
  have w4 : IntKind.i64.wrap 4 = 4 := i64 (by omega) (by omega)
  refine Pc_of (Gf_enter (C := Cf G) Tryz.func191 rfl ok191 (Nat.le_of_ble_eq_true rfl) ?_)
  simp only [Tryz.f191, Option.getD_some]
  refine wB1 trivial ?_
  refine Gc_loop_inv (fun m st => ∃ k : Nat, k + m = 4 ∧ (k = 0 ∨ a = 0) ∧ st.T 3 = .sc (.int .i64 0) ∧ st.T 6 = .psl [.sc (.int .i64 a), .sc (.int .i64 0), .sc (.int .i64 0), .sc (.int .i64 0)] 4 ∧ st.T 7 = .sc (.int .i64 4) ∧ st.T 8 = .sc (.int .i64 k)) ?_ 4 _ ⟨0, rfl, .inl rfl, rfl, rfl, rfl, rfl⟩
  rintro m ⟨T, h, n⟩ ⟨k, hkm, hka, t3, t6, t7, t8⟩
  simp only at t3 t6 t7 t8
  have hk : k = 0 ∨ k = 1 ∨ k = 2 ∨ k = 3 ∨ k = 4 := by omega
  rcases hk with rfl | rfl | rfl | rfl | rfl
  · by_cases h0 : a = 0
    · subst h0
      refine wB1 (wa t3 (wa t6 (wa t7 (wa t8 (wa w1 (wa @Int.zero_add @Nat.zero_mul)))))) ?_
      refine ⟨3, by omega, 1, by omega, .inr rfl, ?_, ?_, ?_, ?_⟩
      all_goals simp [upd_ap, t3, t6, t7]
    · refine wB1 (wa t3 (wa t6 (wa t7 (wa t8 (wa w1 (wa h0 (wa @Int.zero_add @Nat.zero_mul))))))) ?_
      simp only [one1, frz_s, Option.map_some]
  · obtain rfl : a = 0 := hka.resolve_left (by omega)
    refine wB1 (wa t3 (wa t6 (wa t7 (wa t8 (wa w2 @Int.natCast_one))))) ?_
    refine ⟨2, by omega, 2, by omega, .inr rfl, ?_, ?_, ?_, ?_⟩
    all_goals simp [upd_ap, t3, t6, t7]
  · obtain rfl : a = 0 := hka.resolve_left (by omega)
    refine wB1 (wa t3 (wa t6 (wa t7 (wa t8 (wa w3 @Int.cast_ofNat_Int))))) ?_
    refine ⟨1, by omega, 3, by omega, .inr rfl, ?_, ?_, ?_, ?_⟩
    all_goals simp [upd_ap, t3, t6, t7]
  · obtain rfl : a = 0 := hka.resolve_left (by omega)
    refine wB1 (wa t3 (wa t6 (wa t7 (wa t8 (wa w4 @Int.cast_ofNat_Int))))) ?_
    refine ⟨0, by omega, 4, by omega, .inr rfl, ?_, ?_, ?_, ?_⟩
    all_goals simp [upd_ap, t3, t6, t7]
  · obtain rfl : a = 0 := hka.resolve_left (by omega)
    refine wB1 (wa t3 (wa t6 (wa t7 (wa t8 @Int.cast_ofNat_Int)))) ?_
    simp only [one1, frz_s, Option.map_some]
def like (a b : Int) : Bool := decide (max a 2 = max b 2) && (decide (a = 0) == decide (b = 0))
set_option maxRecDepth 100000 in
theorem pc73 (G : Nat → Option (List AV)) : (a b : JV) → Pc (Cf G) 73 [.agg (enc a), .agg (enc b)] (.sc (.bool (like a.kind b.kind)))
  | .mk k1 g1 c1 e1 t1 l1 s1, .mk k2 g2 c2 e2 t2 l2 s2 => by
    simp only [enc, JV.kind, like]
    by_cases h : max k1 2 = max k2 2
    · refine Pc_of (Gf_enter (C := Cf G) Tryz.func73 rfl ok73 (Nat.le_of_ble_eq_true rfl) ?_)
      simp only [Tryz.f73, Option.getD_some]
      refine wB1 h ?_
      simp only [one1, frz_s, Option.map_some]
      by_cases q1 : k1 = 0 <;> by_cases q2 : k2 = 0 <;> first | (exfalso; omega) | simp [h, q1, q2]
    · refine Pc_of (Gf_enter (C := Cf G) Tryz.func73 rfl ok73 (Nat.le_of_ble_eq_true rfl) ?_)
      simp only [Tryz.f73, Option.getD_some]
      refine wB1 h ?_
      simp only [one1, frz_s, Option.map_some]
      by_cases q1 : k1 = 0 <;> by_cases q2 : k2 = 0 <;> first | (exfalso; omega) | simp [h, q1, q2]
structure Leaf (k : Int) (ng : Bool) (n : Nat) (ex : Int) : Prop where
  kind : 0 ≤ k ∧ k ≤ 3
  num : k = 3 → DecV ng n ex
  non : k ≠ 3 → ng = false ∧ n = 0 ∧ ex = 0
def leafV (k : Int) (ng : Bool) (n : Nat) (ex : Int) : JV := .mk k ng (lim n) ex ⟨#[]⟩ [] []
def ordL (k1 : Int) (n1 : Bool) (a : Nat) (e1 : Int) (k2 : Int) (n2 : Bool) (b : Nat) (e2 : Int) : Int :=
  if cmpI k1 k2 ≠ 0 then cmpI k1 k2 else if k1 = 3 then cmpD n1 a e1 n2 b e2 else 0
set_option maxHeartbeats 4000000 in
set_option maxRecDepth 100000 in
theorem pc132L (G : Nat → Option (List AV)) (k1 : Int) (n1 : Bool) (a : Nat) (e1 : Int) (k2 : Int) (n2 : Bool) (b : Nat) (e2 : Int) (h1 : Leaf k1 n1 a e1) (h2 : Leaf k2 n2 b e2) :
    Pc (Cf G) 132 [.agg (enc (leafV k1 n1 a e1)), .agg (enc (leafV k2 n2 b e2))] (.sc (.int .i64 (ordL k1 n1 a e1 k2 n2 b e2))) := by
  have c1 := pc190 G k1 k2
  have c2 := pc192E G
  have c3 := pc193E G
  have c4 := pc194E G 132
  unfold ordL
  simp only [leafV, enc, encs, strs, List.map_nil, List.length_nil]
  by_cases hc : cmpI k1 k2 = 0
  · have hk : k1 = k2 := by unfold cmpI at hc; split at hc <;> (try split at hc) <;> omega
    subst hk
    rw [if_neg (by simpa using hc)]
    rw [hc] at c1
    by_cases h3 : k1 = 3
    · subst h3
      rw [if_pos rfl]
      have c5 := pc195 G n1 n2 a b e1 e2 (h1.num rfl) (h2.num rfl)
      unfold encD at c5
      refine Pc_of (Gf_enter (C := Cf G) Tryz.func132 rfl ok132 (Nat.le_of_ble_eq_true rfl) ?_)
      simp only [Tryz.f132, Option.getD_some]
      refine wC1 trivial (wa c1 (wa c5 trivial)) ?_
      simp only [one1, frz_s, Option.map_some]
    · rw [if_neg h3]
      have c6 := pc191 G 0
      refine Pc_of (Gf_enter (C := Cf G) Tryz.func132 rfl ok132 (Nat.le_of_ble_eq_true rfl) ?_)
      simp only [Tryz.f132, Option.getD_some]
      refine gF1 h3 (wa c1 (wa c2 (wa c3 (wa c4 (wa c6 trivial))))) ?_
      simp only [one1, frz_s, Option.map_some]
  · rw [if_pos (by simpa using hc)]
    have c6 := pc191 G (cmpI k1 k2)
    generalize cmpI k1 k2 = c at *
    refine Pc_of (Gf_enter (C := Cf G) Tryz.func132 rfl ok132 (Nat.le_of_ble_eq_true rfl) ?_)
    simp only [Tryz.f132, Option.getD_some]
    refine gF1 hc (wa c1 (wa c2 (wa c3 (wa c4 (wa c6 trivial))))) ?_
    simp only [one1, frz_s, Option.map_some]
end Go.Proofs.Bv
namespace Go.Proofs.Bv
open Go
theorem ok74 : codeOk 67 (Tryz.f74.body.getD .skip) = true := by kernel_rfl
theorem ok129 : codeOk 9 (Tryz.f129.body.getD .skip) = true := by kernel_rfl
theorem ok130 : codeOk 7 (Tryz.f130.body.getD .skip) = true := by kernel_rfl
theorem ok128 : codeOk 9 (Tryz.f128.body.getD .skip) = true := by kernel_rfl
def eqLeaf (a b : JV) : Bool := decide (ordL a.kind a.neg (nv a.coef).toNat a.exp b.kind b.neg (nv b.coef).toNat b.exp = 0)
mutual
def cont : JV → JV → Bool
  | .mk k1 g1 c1 e1 t1 l1 s1, b =>
    if like k1 b.kind = false then false
    else if k1 = 4 then Lib.contains t1.data.toList b.text.data.toList
    else if k1 = 5 then b.list.all (fun y => contAny l1 y)
    else if k1 = 6 then (b.keys.zip b.list).all (fun p => decide (0 ≤ idxS s1 p.1 0) && contAt l1 (idxS s1 p.1 0).toNat p.2)
    else eqLeaf (.mk k1 g1 c1 e1 t1 [] s1) b
def contAny : List JV → JV → Bool
  | [], _ => false
  | x :: l, y => cont x y || contAny l y
def contAt : List JV → Nat → JV → Bool
  | [], _, _ => false
  | x :: _, 0, y => cont x y
  | _ :: l, i + 1, y => contAt l i y
end
theorem contAny_iff : (l : List JV) → (y : JV) → contAny l y = l.any (fun x => cont x y)
  | [], _ => by simp [contAny]
  | x :: l, y => by simp [contAny, contAny_iff l y]
theorem contAt_at : (l : List JV) → (i : Nat) → (y : JV) → contAt l i y = match l[i]? with | some x => cont x y | none => false
  | [], i, y => by simp [contAt]
  | x :: l, 0, y => by simp [contAt]
  | x :: l, i + 1, y => by simp [contAt, contAt_at l i y]
def Vd (v : JV) : Prop := ∀ x ∈ pre v, own x = 0
theorem firstErr_all : (l : List JV) → firstErr l = 0 → ∀ x ∈ l, own x = 0
  | [], _ => by simp
  | x :: r, h => by
    simp only [firstErr] at h
    split at h
    · rename_i h0
      intro y hy
      rcases List.mem_cons.1 hy with rfl | hy
      · exact h0
      · exact firstErr_all r h y hy
    · rename_i h0
      exact absurd h h0
theorem vd_chk {v : JV} (h : chk v = 0) : Vd v := by
  unfold chk at h
  split at h
  · omega
  · split at h
    · omega
    · exact firstErr_all _ h
theorem pre_self (v : JV) : v ∈ pre v := by
  obtain ⟨k, ng, cf, ex, t, l, ks⟩ := v
  simp [pre]
theorem pre_part : {l : List JV} → {x : JV} → x ∈ l → ∀ y ∈ pre x, y ∈ pres l
  | z :: l, x, hx, y, hy => by
    simp only [pres, List.mem_append]
    rcases List.mem_cons.1 hx with rfl | hx
    · exact .inl hy
    · exact .inr (pre_part hx y hy)
theorem Vd.own {v : JV} (h : Vd v) : own v = 0 := h v (pre_self v)
theorem Vd.part {v x : JV} (h : Vd v) (hx : x ∈ v.list) : Vd x := by
  obtain ⟨k, ng, cf, ex, t, l, ks⟩ := v
  intro y hy
  refine h y ?_
  simp only [pre, List.mem_cons]
  exact .inr (pre_part hx y hy)
theorem emp_of {t : ByteArray} (h : (t.toList == (ByteArray.mk #[]).toList) = true) : t = ⟨#[]⟩ := by
  have e := eq_of_beq h
  rw [ByteArray.toList_eq, ByteArray.toList_eq] at e
  apply ByteArray.ext
  exact Array.toList_inj.1 e
theorem leaf_of {k : Int} {ng : Bool} {cf : List Int} {ex : Int} {t : ByteArray} {l : List JV} {ks : List ByteArray} (h : own (.mk k ng cf ex t l ks) = 0) (hk : k < 4) (hc : Limbs cf) :
    t = ⟨#[]⟩ ∧ l = [] ∧ ks = [] ∧ cf = lim (nv cf).toNat ∧ Leaf k ng (nv cf).toNat ex := by
  obtain ⟨h1, h2, h3, h4, h5, h6⟩ := own_said h
  simp only [own] at h
  split at h
  · omega
  · split at h
    · omega
    · split at h
      · omega
      · split at h
        · omega
        · rename_i hu
          have hu1 : used (.mk k ng cf ex t l ks) = true := by
            cases hq : used (.mk k ng cf ex t l ks)
            · exact absurd (.inr (.inl hq)) hu
            · rfl
          have hn : numOk (.mk k ng cf ex t l ks) = true := by
            cases hq : numOk (.mk k ng cf ex t l ks)
            · exact absurd (.inl hq) hu
            · rfl
          simp only [used, Bool.and_eq_true, Bool.or_eq_true, decide_eq_true_eq] at hu1
          obtain ⟨⟨u1, u2⟩, u3⟩ := hu1
          have e1 := emp_of (u1.resolve_left (by omega))
          have e2 : l = [] := List.eq_nil_of_length_eq_zero (by omega)
          have e3 : ks = [] := List.eq_nil_of_length_eq_zero (by rw [if_neg (by omega)] at u3; omega)
          refine ⟨e1, e2, e3, ?_⟩
          by_cases hk3 : k = 3
          · have hd := h3 hk3
            obtain ⟨n, q1, _⟩ := dec_lim hd hc
            have q2 : (nv cf).toNat = n := by rw [q1, nv_lim]; rfl
            rw [q2]
            exact ⟨q1, ⟨by omega, fun _ => decV_of (by rw [← q1]; exact hd), fun e => absurd hk3 e⟩⟩
          · simp only [numOk, if_neg hk3, Bool.and_eq_true, decide_eq_true_eq, Bool.not_eq_true'] at hn
            obtain ⟨⟨m1, m2⟩, m3⟩ := hn
            have e4 : cf = [] := List.eq_nil_of_length_eq_zero (by omega)
            subst e4
            refine ⟨by rw [show (nv []).toNat = 0 from rfl, lim_zero], ⟨by omega, fun e => absurd e hk3, fun _ => ⟨by simpa using m1, rfl, by simpa using m3⟩⟩⟩
end Go.Proofs.Bv
