/-
  A part of the proof of KindsBackUptoCardSaid: BkRunes2, BkTexts, BkNat5, BkMul, BkAdd, BkLim, BkParse, BkParse2.
  Conditions: those that each part names.
-/
import Derived.Test.YtegdndonafbcdaaGreatDoorKb16
set_option linter.unusedSimpArgs false
set_option linter.unusedVariables false
namespace Go.Proofs.Bv
open Go
set_option maxHeartbeats 4000000 in
set_option maxRecDepth 100000 in
theorem gf171b (G : Nat → Option (List AV)) (s : ByteArray) (hn : s.size ≤ 140737488355328) (b : Nat) (I : Nat → Heap → Nat → Prop) (Q : AV → Heap → Nat → Prop)
    (hround : ∀ p h n (K : AV → Heap → Nat → Prop), I p h n → p < s.size → (∀ h' n', n ≤ n' → I (p + wideAt s p) h' n' → K (.sc (.bool true)) h' n') → (∀ h' n', n ≤ n' → Q (.tup []) h' n' → K (.sc (.bool false)) h' n') →
      Wk (C2 G) (.fn (.yield b) []) [.sc (.int .i64 p), .sc (.int .i32 (runeAt s p))] h n K)
    (hend : ∀ h n, I s.size h n → Q (.tup []) h n) {h : Heap} {n : Nat} (hI : I 0 h n) : Gf (C2 G) 171 [.fn (.yield b) [], .pptr [.sc (.string s)] 0] h n Q := by
  refine Gf_enter (C := C2 G) Tryz.func171 rfl ok171 (Nat.le_of_ble_eq_true rfl) ?_
  simp only [Tryz.f171, Option.getD_some]
  refine wB1 trivial ?_
  refine Gc_loop_inv (fun m st => ∃ p : Nat, p ≤ s.size ∧ m = s.size - p ∧ st.T 0 = .fn (.yield b) [] ∧ st.T 1 = .pptr [.sc (.string s)] 0 ∧ st.T 3 = .sc (.int .i64 p) ∧ I p st.h st.n) ?_ s.size _ ⟨0, by omega, by omega, ?_⟩
  · rintro m ⟨T, h, n⟩ ⟨p, hp, rfl, h0, h1, h3, hI⟩
    simp only at h0 h1 h3 hI
    by_cases hlt : p < s.size
    · have hlt' : (p : Int) < (s.size : Int) := by omega
      have hbd : bnds s.size (some (.sc (.int .i64 (p : Int)))) none = some (p, s.size) := by simp [bnds, asNat]; omega
      obtain ⟨c, hc⟩ : ∃ c, (Lib.decodeGo (s.extract p s.size)).1 = c := ⟨_, rfl⟩
      obtain ⟨w, hwd⟩ : ∃ w, (Lib.decodeGo (s.extract p s.size)).2 = w := ⟨_, rfl⟩
      have hwr := wide_rng s p hlt
      have hrd := hround p h n
      unfold runeAt at hrd
      unfold wideAt at hwr hrd
      rw [hc, hwd] at hrd
      rw [hwd] at hwr
      have hadd : IntKind.i64.wrap ((p : Int) + (w : Int)) = ((p + w : Nat) : Int) := by rw [i64 (by omega) (by omega)]; omega
      have hadd1 : (w : Int) = 1 → IntKind.i64.wrap ((p : Int) + 1) = (p : Int) + (w : Int) := fun h => by rw [i64 (by omega) (by omega)]; omega
      by_cases h65 : (c : Int) = 65533
      · by_cases hw1 : (w : Int) = 1
        · rw [if_pos ⟨h65, hw1⟩] at hrd
          refine wC1 (wa h0 (wa h1 (wa h3 (wa hlt' (wa hbd (wa hc (wa hwd (wa h65 hw1)))))))) trivial ?_
          refine st_wk rfl rfl (by simp only [vop, val, argsT, upd_ap, Nat.reduceEqDiff, if_true, if_false, ite_true, ite_false, reduceIte, loadAt, loadA, AV.cells, AV.one, List.all_cons, List.all_nil, ofV, ofCell, plain, List.getElem?_cons_zero, List.getElem?_cons_succ, List.getElem?_toArray, Option.getD_some, Bool.not_true, Bool.not_false, Bool.false_eq_true, Bool.and_true, Bool.true_and, Bool.and_self, Nat.zero_add, Option.map_some, Option.bind_some, List.map_cons, List.map_nil, ev_add, ev_sub, ev_mul, ev_lss, ev_leq, ev_gtr, ev_geq, ev_eql, ev_neq, ev_seql, ev_sneq, ev_sleq, ev_slss, ev_not, ev_min, ev_max, asNat_nat, asNat_zero, asNat_one, asNat_two, asNat_three, vb_len, List.length_cons, List.length_nil, Nat.reduceAdd, Nat.reduceLeDiff, Nat.reduceMul, Int.reduceEq, Int.reduceLT, Int.reduceLE, Int.reduceNeg, Int.reduceAdd, Int.reduceSub, Nat.reduceLT, decide_true, decide_false, not_true_eq_false, not_false_eq_true, and_self, and_true, true_and, storeA, List.take_zero, List.drop_succ_cons, List.drop_zero, List.nil_append, List.append_nil, List.take_succ_cons, List.cons_append, cut_cons, cut_zero, cut_skip, tAt, hHide, hAt, upsAt, List.contains_cons, List.contains_nil, Nat.reduceBEq, Bool.or_true, Bool.true_or, Bool.or_false, Bool.false_or, Bool.or_self, Bool.and_true, Bool.true_and, Bool.and_false, Bool.false_and, beq_self_eq_true (α := Nat), Option.some_beq_some, Option.none_beq_some, Option.some_beq_none, Bool.false_eq_true, List.all_nil, touch, touchB, Nat.sub_self, List.range'_zero, Nat.add_sub_cancel_left, List.range'_one, h0]) (by simp only [vop, val, argsT, upd_ap, Nat.reduceEqDiff, if_true, if_false, ite_true, ite_false, reduceIte, loadAt, loadA, AV.cells, AV.one, List.all_cons, List.all_nil, ofV, ofCell, plain, List.getElem?_cons_zero, List.getElem?_cons_succ, List.getElem?_toArray, Option.getD_some, Bool.not_true, Bool.not_false, Bool.false_eq_true, Bool.and_true, Bool.true_and, Bool.and_self, Nat.zero_add, Option.map_some, Option.bind_some, List.map_cons, List.map_nil, ev_add, ev_sub, ev_mul, ev_lss, ev_leq, ev_gtr, ev_geq, ev_eql, ev_neq, ev_seql, ev_sneq, ev_sleq, ev_slss, ev_not, ev_min, ev_max, asNat_nat, asNat_zero, asNat_one, asNat_two, asNat_three, vb_len, List.length_cons, List.length_nil, Nat.reduceAdd, Nat.reduceLeDiff, Nat.reduceMul, Int.reduceEq, Int.reduceLT, Int.reduceLE, Int.reduceNeg, Int.reduceAdd, Int.reduceSub, Nat.reduceLT, decide_true, decide_false, not_true_eq_false, not_false_eq_true, and_self, and_true, true_and, storeA, List.take_zero, List.drop_succ_cons, List.drop_zero, List.nil_append, List.append_nil, List.take_succ_cons, List.cons_append, cut_cons, cut_zero, cut_skip, tAt, hHide, hAt, upsAt, List.contains_cons, List.contains_nil, Nat.reduceBEq, Bool.or_true, Bool.true_or, Bool.or_false, Bool.false_or, Bool.or_self, Bool.and_true, Bool.true_and, Bool.and_false, Bool.false_and, beq_self_eq_true (α := Nat), Option.some_beq_some, Option.none_beq_some, Option.some_beq_none, Bool.false_eq_true, List.all_nil, touch, touchB, Nat.sub_self, List.range'_zero, Nat.add_sub_cancel_left, List.range'_one, h0, h3, h65]) (hrd _ hI hlt (fun h' n' hn' hI' => st_gn hn' rfl ?_) (fun h' n' hn' hq => st_gn hn' rfl ?_))
          · refine wB1 (wa h0 (wa h1 (wa h3 hadd))) ?_
            refine ⟨s.size - (p + w), by omega, p + w, by omega, rfl, ?_, ?_, ?_, hI'⟩
            all_goals first | (simp [upd_ap, h0, h1]; done) | (simp [upd_ap, h0, h1]; exact hadd1 hw1)
          · refine wB1 (wa h0 (wa h1 h3)) ?_
            exact hq
        · rw [if_neg (by omega)] at hrd
          refine wC1 (wa h0 (wa h1 (wa h3 (wa hlt' (wa hbd (wa hc (wa hwd (wa h65 hw1)))))))) trivial ?_
          refine st_wk rfl rfl (by simp only [vop, val, argsT, upd_ap, Nat.reduceEqDiff, if_true, if_false, ite_true, ite_false, reduceIte, loadAt, loadA, AV.cells, AV.one, List.all_cons, List.all_nil, ofV, ofCell, plain, List.getElem?_cons_zero, List.getElem?_cons_succ, List.getElem?_toArray, Option.getD_some, Bool.not_true, Bool.not_false, Bool.false_eq_true, Bool.and_true, Bool.true_and, Bool.and_self, Nat.zero_add, Option.map_some, Option.bind_some, List.map_cons, List.map_nil, ev_add, ev_sub, ev_mul, ev_lss, ev_leq, ev_gtr, ev_geq, ev_eql, ev_neq, ev_seql, ev_sneq, ev_sleq, ev_slss, ev_not, ev_min, ev_max, asNat_nat, asNat_zero, asNat_one, asNat_two, asNat_three, vb_len, List.length_cons, List.length_nil, Nat.reduceAdd, Nat.reduceLeDiff, Nat.reduceMul, Int.reduceEq, Int.reduceLT, Int.reduceLE, Int.reduceNeg, Int.reduceAdd, Int.reduceSub, Nat.reduceLT, decide_true, decide_false, not_true_eq_false, not_false_eq_true, and_self, and_true, true_and, storeA, List.take_zero, List.drop_succ_cons, List.drop_zero, List.nil_append, List.append_nil, List.take_succ_cons, List.cons_append, cut_cons, cut_zero, cut_skip, tAt, hHide, hAt, upsAt, List.contains_cons, List.contains_nil, Nat.reduceBEq, Bool.or_true, Bool.true_or, Bool.or_false, Bool.false_or, Bool.or_self, Bool.and_true, Bool.true_and, Bool.and_false, Bool.false_and, beq_self_eq_true (α := Nat), Option.some_beq_some, Option.none_beq_some, Option.some_beq_none, Bool.false_eq_true, List.all_nil, touch, touchB, Nat.sub_self, List.range'_zero, Nat.add_sub_cancel_left, List.range'_one, h0]) (by simp only [vop, val, argsT, upd_ap, Nat.reduceEqDiff, if_true, if_false, ite_true, ite_false, reduceIte, loadAt, loadA, AV.cells, AV.one, List.all_cons, List.all_nil, ofV, ofCell, plain, List.getElem?_cons_zero, List.getElem?_cons_succ, List.getElem?_toArray, Option.getD_some, Bool.not_true, Bool.not_false, Bool.false_eq_true, Bool.and_true, Bool.true_and, Bool.and_self, Nat.zero_add, Option.map_some, Option.bind_some, List.map_cons, List.map_nil, ev_add, ev_sub, ev_mul, ev_lss, ev_leq, ev_gtr, ev_geq, ev_eql, ev_neq, ev_seql, ev_sneq, ev_sleq, ev_slss, ev_not, ev_min, ev_max, asNat_nat, asNat_zero, asNat_one, asNat_two, asNat_three, vb_len, List.length_cons, List.length_nil, Nat.reduceAdd, Nat.reduceLeDiff, Nat.reduceMul, Int.reduceEq, Int.reduceLT, Int.reduceLE, Int.reduceNeg, Int.reduceAdd, Int.reduceSub, Nat.reduceLT, decide_true, decide_false, not_true_eq_false, not_false_eq_true, and_self, and_true, true_and, storeA, List.take_zero, List.drop_succ_cons, List.drop_zero, List.nil_append, List.append_nil, List.take_succ_cons, List.cons_append, cut_cons, cut_zero, cut_skip, tAt, hHide, hAt, upsAt, List.contains_cons, List.contains_nil, Nat.reduceBEq, Bool.or_true, Bool.true_or, Bool.or_false, Bool.false_or, Bool.or_self, Bool.and_true, Bool.true_and, Bool.and_false, Bool.false_and, beq_self_eq_true (α := Nat), Option.some_beq_some, Option.none_beq_some, Option.some_beq_none, Bool.false_eq_true, List.all_nil, touch, touchB, Nat.sub_self, List.range'_zero, Nat.add_sub_cancel_left, List.range'_one, h0, h3, h65]) (hrd _ hI hlt (fun h' n' hn' hI' => st_gn hn' rfl ?_) (fun h' n' hn' hq => st_gn hn' rfl ?_))
          · refine wB1 (wa h0 (wa h1 (wa h3 hadd))) ?_
            refine ⟨s.size - (p + w), by omega, p + w, by omega, rfl, ?_, ?_, ?_, hI'⟩
            all_goals first | (simp [upd_ap, h0, h1]; done) | (simp [upd_ap, h0, h1]; exact hadd1 hw1)
          · refine wB1 (wa h0 (wa h1 h3)) ?_
            exact hq
      · rw [if_neg (by omega)] at hrd
        refine wC1 (wa h0 (wa h1 (wa h3 (wa hlt' (wa hbd (wa hc (wa hwd h65))))))) trivial ?_
        refine st_wk rfl rfl (by simp only [vop, val, argsT, upd_ap, Nat.reduceEqDiff, if_true, if_false, ite_true, ite_false, reduceIte, loadAt, loadA, AV.cells, AV.one, List.all_cons, List.all_nil, ofV, ofCell, plain, List.getElem?_cons_zero, List.getElem?_cons_succ, List.getElem?_toArray, Option.getD_some, Bool.not_true, Bool.not_false, Bool.false_eq_true, Bool.and_true, Bool.true_and, Bool.and_self, Nat.zero_add, Option.map_some, Option.bind_some, List.map_cons, List.map_nil, ev_add, ev_sub, ev_mul, ev_lss, ev_leq, ev_gtr, ev_geq, ev_eql, ev_neq, ev_seql, ev_sneq, ev_sleq, ev_slss, ev_not, ev_min, ev_max, asNat_nat, asNat_zero, asNat_one, asNat_two, asNat_three, vb_len, List.length_cons, List.length_nil, Nat.reduceAdd, Nat.reduceLeDiff, Nat.reduceMul, Int.reduceEq, Int.reduceLT, Int.reduceLE, Int.reduceNeg, Int.reduceAdd, Int.reduceSub, Nat.reduceLT, decide_true, decide_false, not_true_eq_false, not_false_eq_true, and_self, and_true, true_and, storeA, List.take_zero, List.drop_succ_cons, List.drop_zero, List.nil_append, List.append_nil, List.take_succ_cons, List.cons_append, cut_cons, cut_zero, cut_skip, tAt, hHide, hAt, upsAt, List.contains_cons, List.contains_nil, Nat.reduceBEq, Bool.or_true, Bool.true_or, Bool.or_false, Bool.false_or, Bool.or_self, Bool.and_true, Bool.true_and, Bool.and_false, Bool.false_and, beq_self_eq_true (α := Nat), Option.some_beq_some, Option.none_beq_some, Option.some_beq_none, Bool.false_eq_true, List.all_nil, touch, touchB, Nat.sub_self, List.range'_zero, Nat.add_sub_cancel_left, List.range'_one, h0]) (by simp only [vop, val, argsT, upd_ap, Nat.reduceEqDiff, if_true, if_false, ite_true, ite_false, reduceIte, loadAt, loadA, AV.cells, AV.one, List.all_cons, List.all_nil, ofV, ofCell, plain, List.getElem?_cons_zero, List.getElem?_cons_succ, List.getElem?_toArray, Option.getD_some, Bool.not_true, Bool.not_false, Bool.false_eq_true, Bool.and_true, Bool.true_and, Bool.and_self, Nat.zero_add, Option.map_some, Option.bind_some, List.map_cons, List.map_nil, ev_add, ev_sub, ev_mul, ev_lss, ev_leq, ev_gtr, ev_geq, ev_eql, ev_neq, ev_seql, ev_sneq, ev_sleq, ev_slss, ev_not, ev_min, ev_max, asNat_nat, asNat_zero, asNat_one, asNat_two, asNat_three, vb_len, List.length_cons, List.length_nil, Nat.reduceAdd, Nat.reduceLeDiff, Nat.reduceMul, Int.reduceEq, Int.reduceLT, Int.reduceLE, Int.reduceNeg, Int.reduceAdd, Int.reduceSub, Nat.reduceLT, decide_true, decide_false, not_true_eq_false, not_false_eq_true, and_self, and_true, true_and, storeA, List.take_zero, List.drop_succ_cons, List.drop_zero, List.nil_append, List.append_nil, List.take_succ_cons, List.cons_append, cut_cons, cut_zero, cut_skip, tAt, hHide, hAt, upsAt, List.contains_cons, List.contains_nil, Nat.reduceBEq, Bool.or_true, Bool.true_or, Bool.or_false, Bool.false_or, Bool.or_self, Bool.and_true, Bool.true_and, Bool.and_false, Bool.false_and, beq_self_eq_true (α := Nat), Option.some_beq_some, Option.none_beq_some, Option.some_beq_none, Bool.false_eq_true, List.all_nil, touch, touchB, Nat.sub_self, List.range'_zero, Nat.add_sub_cancel_left, List.range'_one, h0, h3, h65]) (hrd _ hI hlt (fun h' n' hn' hI' => st_gn hn' rfl ?_) (fun h' n' hn' hq => st_gn hn' rfl ?_))
        · refine wB1 (wa h0 (wa h1 (wa h3 hadd))) ?_
          refine ⟨s.size - (p + w), by omega, p + w, by omega, rfl, ?_, ?_, ?_, hI'⟩
          all_goals simp [upd_ap, h0, h1]
        · refine wB1 (wa h0 (wa h1 h3)) ?_
          exact hq
    · have hge : ¬ (p : Int) < (s.size : Int) := by omega
      obtain rfl : p = s.size := by omega
      refine wB1 (wa h0 (wa h1 (wa h3 hge))) ?_
      exact hend _ _ hI
  · simp [upd_ap, argsT, hI]
theorem gf171M (G : Nat → Option (List AV)) (s : ByteArray) (hn : s.size ≤ 140737488355328) (b : Nat) (L : LoopA) (J : Nat → Heap → Nat → Prop) (Q : AV → Heap → Nat → Prop)
    (hround : ∀ p h n (K : AV → Heap → Nat → Prop), J p h n → h b = some (.loop L) → p < s.size → (∀ h' n', n ≤ n' → J (p + wideAt s p) h' n' → h' b = some (.loop L) → K (.sc (.bool true)) h' n') → (∀ h' n', n ≤ n' → Q (.tup []) h' n' → K (.sc (.bool false)) h' n') →
      Wk (C2 G) (.fn (.yield b) []) [.sc (.int .i64 p), .sc (.int .i32 (runeAt s p))] h n K)
    (hend : ∀ h n, J s.size h n → h b = some (.loop L) → Q (.tup []) h n) {h : Heap} {n : Nat} (hJ : J 0 h n) (hL : h b = some (.loop L)) : Gf (C2 G) 171 [.fn (.yield b) [], .pptr [.sc (.string s)] 0] h n Q :=
  gf171b G s hn b (fun p h n => J p h n ∧ h b = some (.loop L)) Q (fun p h n K hI hlt hT hF => hround p h n K hI.1 hI.2 hlt (fun h' n' hn hj hl => hT h' n' hn ⟨hj, hl⟩) hF) (fun h n hI => hend h n hI.1 hI.2) ⟨hJ, hL⟩
set_option maxHeartbeats 4000000 in
set_option maxRecDepth 100000 in
theorem gf60 (G : Nat → Option (List AV)) (s : ByteArray) (hn : s.size * 8 ≤ 140737488355328) (h0 : (chkFrom s 0).2 = 0) :
    Gf (C2 G) 60 [.sc (.string s)] noHeap 0 fun v h n => ∃ x, v = .tup [x, .sc (.int .i64 0)] ∧ OwnI x h n 2 (runesFrom s 0) := by
  have h1 := orcL_of (pc110 G s (by omega))
  have h2 := orcL_of (pc111 G s)
  rw [h0] at h1
  generalize (chkFrom s 0).1 = c1 at *
  refine Gf_enter (C := C2 G) Tryz.func60 rfl ok60 (Nat.le_of_ble_eq_true rfl) ?_
  simp only [Tryz.f60, Option.getD_some]
  refine wC1 (wa h1 h2) trivial ?_
  refine st_range (by simp only [vop, val, argsT, upd_ap, Nat.reduceEqDiff, if_true, if_false, ite_true, ite_false, reduceIte, loadAt, loadA, AV.cells, AV.one, List.all_cons, List.all_nil, ofV, ofCell, plain, List.getElem?_cons_zero, List.getElem?_cons_succ, List.getElem?_toArray, Option.getD_some, Bool.not_true, Bool.not_false, Bool.false_eq_true, Bool.and_true, Bool.true_and, Bool.and_self, Nat.zero_add, Option.map_some, Option.bind_some, List.map_cons, List.map_nil, ev_add, ev_sub, ev_mul, ev_lss, ev_leq, ev_gtr, ev_geq, ev_eql, ev_neq, ev_seql, ev_sneq, ev_sleq, ev_slss, ev_not, ev_min, ev_max, asNat_nat, asNat_zero, asNat_one, asNat_two, asNat_three, vb_len, List.length_cons, List.length_nil, Nat.reduceAdd, Nat.reduceLeDiff, Nat.reduceMul, Int.reduceEq, Int.reduceLT, Int.reduceLE, Int.reduceNeg, Int.reduceAdd, Int.reduceSub, Nat.reduceLT, decide_true, decide_false, not_true_eq_false, not_false_eq_true, and_self, and_true, true_and, storeA, List.take_zero, List.drop_succ_cons, List.drop_zero, List.nil_append, List.append_nil, List.take_succ_cons, List.cons_append, cut_cons, cut_zero, cut_skip, tAt, hHide, hAt, upsAt, List.contains_cons, List.contains_nil, Nat.reduceBEq, Bool.or_true, Bool.true_or, Bool.or_false, Bool.false_or, Bool.or_self, Bool.and_true, Bool.true_and, Bool.and_false, Bool.false_and, beq_self_eq_true (α := Nat), Option.some_beq_some, Option.none_beq_some, Option.some_beq_none, Bool.false_eq_true, List.all_nil, touch, touchB, Nat.sub_self, List.range'_zero, Nat.add_sub_cancel_left, List.range'_one]; with_reducible rfl) ?_
  refine gf171M G s (by omega) _ _ (fun p h n => 2 ≤ n ∧ p ≤ s.size ∧ ∃ x out, h 0 = some (.cells [x] 0 false) ∧ OwnI x h n 2 out ∧ out ++ runesFrom s p = runesFrom s 0) _ ?_ ?_ ⟨Nat.le_refl _, by omega, .nilS, [], rfl, .inl ⟨rfl, rfl⟩, rfl⟩ rfl
  · rintro p h n K ⟨hn2, hp, x, out, q0, ho, hr⟩ hL hlt hT hF
    have hst : runesFrom s p = IntKind.i64.wrap (runeAt s p) :: runesFrom s (p + wideAt s p) := by rw [runesFrom, dif_pos hlt]
    have hol : out.length + 1 ≤ s.size := by
      have := runes_len s 0
      rw [← hr, hst] at this
      simp at this
      omega
    have hw := wide_rng s p hlt
    have g1 : (out.length + 1) * 8 ≤ 140737488355328 := by omega
    have g2 : out.length + 1 ≤ 140737488355328 := by omega
    have g3 : out.length * 1 ≤ (ints out).length := by rw [ints_len]; omega
    have g4 : cut (ints out) 0 (out.length * 1) = ints out := by rw [cut, List.drop_zero, Nat.mul_one, List.take_of_length_le (by rw [ints_len]; omega)]
    have hr2 : (out ++ [IntKind.i64.wrap (runeAt s p)]) ++ runesFrom s (p + wideAt s p) = runesFrom s 0 := by rw [← hr, hst]; simp
    have hn0 : ¬ n = 0 := by omega
    have hn1 : ¬ n = 1 := by omega
    have h0n : ¬ 0 = n := by omega
    have h1n : ¬ 1 = n := by omega
    have h01 : ¬ 0 = n + 1 := by omega
    have h11 : ¬ 1 = n + 1 := by omega
    refine Wk_yield hL (by kernel_rfl) rfl ?_
    refine wB1 hL ?_
    refine roundMid_of hL rfl ?_
    rcases ho with ⟨rfl, rfl⟩ | ⟨b, rfl, hb, hb2, hbn⟩
    · refine wB1 (wa hL (wa q0 (wa hn0 (wa @hn1 (wa h0n h1n))))) ?_
      refine roundEnd_norm (by simp only [vop, val, argsT, upd_ap, Nat.reduceEqDiff, if_true, if_false, ite_true, ite_false, reduceIte, loadAt, loadA, AV.cells, AV.one, List.all_cons, List.all_nil, ofV, ofCell, plain, List.getElem?_cons_zero, List.getElem?_cons_succ, List.getElem?_toArray, Option.getD_some, Bool.not_true, Bool.not_false, Bool.false_eq_true, Bool.and_true, Bool.true_and, Bool.and_self, Nat.zero_add, Option.map_some, Option.bind_some, List.map_cons, List.map_nil, ev_add, ev_sub, ev_mul, ev_lss, ev_leq, ev_gtr, ev_geq, ev_eql, ev_neq, ev_seql, ev_sneq, ev_sleq, ev_slss, ev_not, ev_min, ev_max, asNat_nat, asNat_zero, asNat_one, asNat_two, asNat_three, vb_len, List.length_cons, List.length_nil, Nat.reduceAdd, Nat.reduceLeDiff, Nat.reduceMul, Int.reduceEq, Int.reduceLT, Int.reduceLE, Int.reduceNeg, Int.reduceAdd, Int.reduceSub, Nat.reduceLT, decide_true, decide_false, not_true_eq_false, not_false_eq_true, and_self, and_true, true_and, storeA, List.take_zero, List.drop_succ_cons, List.drop_zero, List.nil_append, List.append_nil, List.take_succ_cons, List.cons_append, cut_cons, cut_zero, cut_skip, tAt, hHide, hAt, upsAt, List.contains_cons, List.contains_nil, Nat.reduceBEq, Bool.or_true, Bool.true_or, Bool.or_false, Bool.false_or, Bool.or_self, Bool.and_true, Bool.true_and, Bool.and_false, Bool.false_and, beq_self_eq_true (α := Nat), Option.some_beq_some, Option.none_beq_some, Option.some_beq_none, Bool.false_eq_true, List.all_nil, touch, touchB, Nat.sub_self, List.range'_zero, Nat.add_sub_cancel_left, List.range'_one, hn0, hn1, h0n, h1n, h01, h11, hL]; with_reducible rfl) ?_
      refine hT _ _ (by simp only; omega) ⟨by simp only; omega, hw.2, .osl (n + 1) 0 1, [IntKind.i64.wrap (runeAt s p)], ?_, .inr ⟨n + 1, rfl, ?_, by omega, by simp only; omega⟩, ?_⟩ ?_
      · simp [upd_ap, h0n]
      · simp [upd_ap, ints, hn0, hn1]
      · simpa using hr2
      · simp [upd_ap, hL]
    · have hbn' : ¬ b = n := by omega
      have hnb : ¬ n = b := by omega
      have hb0 : ¬ b = 0 := by omega
      have hb1 : ¬ b = 1 := by omega
      have h0b : ¬ 0 = b := by omega
      have h1b : ¬ 1 = b := by omega
      refine wB1 (wa hL (wa q0 (wa hn0 (wa @hn1 (wa h0n (wa h1n (wa hb (wa hbn' (wa hnb (wa hb0 (wa hb1 (wa h0b (wa h1b (wa g1 (wa g2 (wa g3 (wa g4 @ints_snoc))))))))))))))))) ?_
      refine roundEnd_norm (by simp only [vop, val, argsT, upd_ap, Nat.reduceEqDiff, if_true, if_false, ite_true, ite_false, reduceIte, loadAt, loadA, AV.cells, AV.one, List.all_cons, List.all_nil, ofV, ofCell, plain, List.getElem?_cons_zero, List.getElem?_cons_succ, List.getElem?_toArray, Option.getD_some, Bool.not_true, Bool.not_false, Bool.false_eq_true, Bool.and_true, Bool.true_and, Bool.and_self, Nat.zero_add, Option.map_some, Option.bind_some, List.map_cons, List.map_nil, ev_add, ev_sub, ev_mul, ev_lss, ev_leq, ev_gtr, ev_geq, ev_eql, ev_neq, ev_seql, ev_sneq, ev_sleq, ev_slss, ev_not, ev_min, ev_max, asNat_nat, asNat_zero, asNat_one, asNat_two, asNat_three, vb_len, List.length_cons, List.length_nil, Nat.reduceAdd, Nat.reduceLeDiff, Nat.reduceMul, Int.reduceEq, Int.reduceLT, Int.reduceLE, Int.reduceNeg, Int.reduceAdd, Int.reduceSub, Nat.reduceLT, decide_true, decide_false, not_true_eq_false, not_false_eq_true, and_self, and_true, true_and, storeA, List.take_zero, List.drop_succ_cons, List.drop_zero, List.nil_append, List.append_nil, List.take_succ_cons, List.cons_append, cut_cons, cut_zero, cut_skip, tAt, hHide, hAt, upsAt, List.contains_cons, List.contains_nil, Nat.reduceBEq, Bool.or_true, Bool.true_or, Bool.or_false, Bool.false_or, Bool.or_self, Bool.and_true, Bool.true_and, Bool.and_false, Bool.false_and, beq_self_eq_true (α := Nat), Option.some_beq_some, Option.none_beq_some, Option.some_beq_none, Bool.false_eq_true, List.all_nil, touch, touchB, Nat.sub_self, List.range'_zero, Nat.add_sub_cancel_left, List.range'_one, hn0, hn1, h0n, h1n, h01, h11, h0b, h1b, hL]; with_reducible rfl) ?_
      refine hT _ _ (by simp only; omega) ⟨by simp only; omega, hw.2, .osl (n + 1) 0 (out.length + 1), out ++ [IntKind.i64.wrap (runeAt s p)], ?_, .inr ⟨n + 1, by simp, ?_, by omega, by simp only; omega⟩, ?_⟩ ?_
      · simp [upd_ap, h0n, h0b]
      · simp [upd_ap, hn0, hn1]
      · exact hr2
      · simp [upd_ap, hL]
  · rintro h n ⟨hn2, hp, x, out, q0, ho, hr⟩ hL
    have hst : runesFrom s s.size = [] := by rw [runesFrom, dif_neg (by omega)]
    rw [hst, List.append_nil] at hr
    refine rangeEnd_norm (by omega) hL rfl rfl ?_
    refine wB1 (wa hL q0) ?_
    rw [← hr]
    refine ⟨x, rfl, ?_⟩
    rcases ho with ⟨rfl, rfl⟩ | ⟨b, rfl, hb, hb2, hbn⟩
    · exact .inl ⟨rfl, rfl⟩
    · have hb1 : ¬ b = 1 := by omega
      exact .inr ⟨b, rfl, by simp only [upd_ap, if_neg hb1]; exact hb, hb2, hbn⟩
end Go.Proofs.Bv
namespace Go.Proofs.Bv
open Go
def textsK : List ByteArray → Int → Int
  | [], e => e
  | k :: r, e => textsK r (or2 e (letters k))
def texts : JV → Int
  | .mk _ _ _ _ t _ ks => textsK ks (letters t)
theorem bs2 (a b : Int) : fillA (fun i => some (i * 1, 1)) (rep 2 [.sc (.int .i64 0)]) [(0, .sc (.int .i64 a)), (1, .sc (.int .i64 b))] = some [.sc (.int .i64 a), .sc (.int .i64 b)] := rfl
theorem ok153 : codeOk 23 (Tryz.f153.body.getD .skip) = true := by kernel_rfl
set_option maxHeartbeats 2000000 in
set_option maxRecDepth 100000 in
theorem pc153 (G : Nat → Option (List AV)) : (v : JV) → Fit v → Pc (Cf G) 153 [.agg (enc v)] (.sc (.int .i64 (texts v)))
  | .mk kk ng cf ex t l ks => fun hfit => by
    have hc := pc220 G t hfit.1.ntext
    refine Pc_of (Gf_enter (C := Cf G) Tryz.func153 rfl ok153 (Nat.le_of_ble_eq_true rfl) ?_)
    simp only [Tryz.f153, Option.getD_some]
    refine wC1 trivial (wa hc trivial) ?_
    refine Gc_loop_inv (fun m st => ∃ d r e, ks = d ++ r ∧ m = r.length ∧ st.T 10 = .psl (strs ks) ks.length ∧ st.T 11 = .sc (.int .i64 ks.length) ∧ st.T 12 = .sc (.int .i64 d.length) ∧ st.T 3 = .sc (.int .i64 e) ∧ textsK r e = textsK ks (letters t)) ?_ ks.length _ ⟨[], ks, letters t, rfl, rfl, ?_⟩
    · rintro m ⟨T, h, n⟩ ⟨d, r, e, hl, rfl, h10, h11, h12, h3, hs⟩
      simp only at h10 h11 h12 h3
      have hdl : d.length ≤ ks.length := by rw [hl]; simp
      have hnk := hfit.1.nkeys
      cases r with
      | nil =>
        have hge : ¬ (d.length : Int) < (ks.length : Int) := by rw [hl]; simp
        refine wB1 (wa h10 (wa h11 (wa h12 (wa h3 hge)))) ?_
        simp only [one1, frz_sc, Option.map_some, texts, ← hs, textsK]
      | cons k r =>
        have hlt : (d.length : Int) < (ks.length : Int) := by rw [hl]; simp; omega
        have hltn : d.length < ks.length := by omega
        have hk := strs_at hl
        have hkc := pc220 G k (hfit.1.nkey k (by rw [hl]; simp))
        refine wF1 (wa h10 (wa h11 (wa h12 (wa h3 (wa hlt (wa hltn (wa hk @bs2))))))) (wa hkc (wa (pc97 G e (letters k)) trivial)) ?_
        refine ⟨r.length, by simp, d ++ [k], r, or2 e (letters k), by simp [hl], rfl, ?_, ?_, ?_, ?_, ?_⟩
        all_goals try simp [upd_ap, h10, h11]
        · rw [i64 (by omega) (by omega)]
        · simpa only [textsK] using hs
    · simp [upd_ap]
end Go.Proofs.Bv
namespace Go.Proofs.Bv
open Go
theorem ok280 : codeOk 119 (Tryz.f280.body.getD .skip) = true := by kernel_rfl
theorem ok222 : codeOk 27 (Tryz.f222.body.getD .skip) = true := by kernel_rfl
theorem ok161 : codeOk 18 (Tryz.f161.body.getD .skip) = true := by kernel_rfl
theorem TopOk_of_chk {l : List Int} (h : natChk l = 0) : TopOk l ∧ l.length ≤ 256 := by
  unfold natChk at h
  split at h
  · omega
  · split at h
    · omega
    · rename_i h1 h2
      refine ⟨fun x hx e => h2 (by rw [hx, e]), by omega⟩
theorem cmpL_one {a : List Int} {d : Int} (ha : Limbs a) (ht : TopOk a) (hd : 0 < d ∧ d ≤ 4294967295) : cmpL a [d] < 0 ↔ nv a < d := by
  match a, ha, ht with
  | [], _, _ => simp [cmpL, cmpI, nv]; omega
  | [x], _, _ =>
    simp only [cmpL, List.length_cons, List.length_nil, if_true, cmpR, nv, cmpI]
    constructor
    · intro h
      split at h <;> first | omega | (split at h <;> omega)
    · intro h
      rw [if_pos (by omega)]
      omega
  | x :: y :: r, hl, h =>
    have h1 := nv_pos hl.tail h.tail (by simp)
    have h2 := hl.head
    have h3 : ¬ (x :: y :: r).length = [d].length := by simp
    simp only [cmpL, if_neg h3, cmpI, nv] at h1 ⊢
    simp only [List.length_cons, List.length_nil]
    constructor
    · intro h
      rw [if_neg (by omega), if_pos (by omega)] at h
      omega
    · intro h
      omega
theorem div_less {a : List Int} {d : Int} (ha : Limbs a) (ht : TopOk a) (hd : 0 < d ∧ d ≤ 4294967295) (h : nv a < d) : trimL (dmQ a d) = [] ∧ trimL [nv a % d] = a := by
  have h0 := nv_nonneg ha
  constructor
  · have h1 : nv (trimL (dmQ a d)) = 0 := by rw [nv_trim, nv_dmQ hd.1, Int.ediv_eq_zero_of_lt h0 h]
    exact (nv_zero_iff (trim_limbs (dmQ_limbs hd.1 ha)) (trim_top _)).1 h1
  · rw [Int.emod_eq_of_lt h0 h]
    match a, ha, ht, h with
    | [], _, _, _ => simp [nv, trimL]
    | [x], hl, ht, _ =>
      have : x ≠ 0 := ht x (by simp)
      simp [nv, trimL, this]
    | x :: y :: r, hl, ht, h =>
      have h1 := nv_pos hl.tail ht.tail (by simp)
      have h2 := hl.head
      simp only [nv] at h h1
      omega
theorem bs1u (a : Int) : fillA (fun i => some (i * 1, 1)) (rep 1 [.sc (.int .u32 0)]) [(0, .sc (.int .u32 a))] = some [.sc (.int .u32 a)] := rfl
theorem u32s_len1 (l : List Int) : (u32s l).length = l.length * 1 := by simp [u32s]
set_option maxHeartbeats 4000000 in
set_option maxRecDepth 100000 in
theorem pc280 (G : Nat → Option (List AV)) (a : List Int) (d : Int) (hl : a.length * 4 ≤ 140737488355328) (ha : Limbs a) (ht : TopOk a) (hd : 0 < d ∧ d ≤ 4294967295) :
    Pc (Cf G) 280 [.psl (u32s a) a.length, .psl (u32s [d]) 1] (.tup [.psl (u32s (trimL (dmQ a d))) (trimL (dmQ a d)).length, .psl (u32s (trimL [nv a % d])) (trimL [nv a % d]).length]) := by
  have hc := pc327 G a [d] (by omega) (by simp)
  have hs := pc281 G a d hl ha hd
  have ht2 := pc183 G [nv a % d] (by simp)
  have hiff := cmpL_one ha ht hd
  have h1 := u32s_len1 a
  have hpu := u32s_pur a
  simp only [List.length_cons, List.length_nil, Nat.zero_add] at hc ht2
  by_cases h : nv a < d
  · have hlt := hiff.2 h
    obtain ⟨e1, e2⟩ := div_less ha ht hd h
    rw [e1, e2]
    refine Pc_of (Gf_enter (C := Cf G) Tryz.func280 rfl ok280 (Nat.le_of_ble_eq_true rfl) ?_)
    simp only [Tryz.f280, Option.getD_some]
    repeat' first | refine w_op rfl rfl ?_ | refine x_p rfl ?_ | refine w_sr ?_ | refine st_nil ?_ | refine w_seq ?_ | refine st_region ?_ | refine st_block ?_ | refine w_cond ?_ | refine b_t ?_ | refine b_f ?_ | refine st_skip ?_ | refine st_exit ?_ | refine st_ret ?_ | refine st_onNormN ?_ | refine st_onNormE ?_ | refine st_onNormR ?_ | refine st_onExitN ?_ | refine st_onExitR ?_ | refine st_onExitS ?_ | refine st_onExitO (by decide) ?_ | refine g_t ?_ | refine g_f rfl ?_ | refine o_op rfl ?_ | refine w_wr ?_ | refine w_wn ?_ | refine d_c rfl ?_ | refine d_on rfl ?_ | refine d_op rfl ?_ | refine d_y ?_ | refine d_gd rfl ?_ | refine d_t ?_ | refine d_f ?_ | refine d_nil ?_ | refine w_dr rfl ?_ | refine d_q ?_ | refine n_0 rfl ?_ | refine d_n ?_ | refine k_p rfl rfl rfl rfl (hc) ?_ | refine k_o rfl rfl rfl ?_ | refine w_gd rfl ?_ | ((first | refine zE1 ?_ | refine w_cl rfl rfl ?_ | refine o_cl rfl ?_ | refine d_cl rfl ?_); (conv => arg 1; try simp only [go_sem, Nat.reduceEqDiff, reduceIte, Nat.reduceAdd, Nat.reduceLeDiff, Nat.reduceMul, Int.reduceEq, Int.reduceLT, Int.reduceLE, Int.reduceNeg, Int.reduceAdd, Int.reduceSub, Nat.reduceLT, Nat.reduceBEq, Nat.reduceSub, Nat.reducePow, hlt, orcClone, h1, hl, hpu]); first | refine zE3 ?_ | refine zE2 ?_ | refine zE4 ?_ | refine zE5 ?_ | refine zE6 ?_ | refine zE7 ?_ | refine zE8 ?_) | (refine w_u false ?_; (conv => arg 1; reduce); refine zR1 ?_) | (refine b_s (fun hb => ?_) (fun hb => ?_) <;> ((try simp only [hn1, hn2, hn3, hn4] at hb); first | (exfalso; omega) | skip)) | (first | refine g_s (fun hb => ?_) (fun hb => ?_) | refine d_s (fun hb => ?_) (fun hb => ?_)) <;> ((try simp only [hn1, hn2] at hb); rw [hb]; try simp only [hn3, hn4] at hb)
    simp only [one1, frz_t, mapF, frz_l, frz_n, Option.map_some, List.append_nil]
    rfl
  · have hge : ¬ cmpL a [d] < 0 := fun e => h (hiff.1 e)
    have h0 : (u32s [d])[0 * 1]? = some (.sc (.int .u32 d)) := rfl
    have eu : u32s [nv a % d] = [.sc (.int .u32 (nv a % d))] := rfl
    rw [eu] at ht2
    refine Pc_of (Gf_enter (C := Cf G) Tryz.func280 rfl ok280 (Nat.le_of_ble_eq_true rfl) ?_)
    simp only [Tryz.f280, Option.getD_some]
    refine wF1 (wa hge (wa h0 (wa @Nat.zero_lt_one (wa @Int.natCast_one @bs1u)))) (wa hc (wa hs (wa ht2 trivial))) ?_
    simp only [one1, frz_t, mapF, frz_l, frz_n, Option.map_some, List.append_nil]
theorem pc279 (G : Nat → Option (List AV)) (a b : List Int) (ha : a.length ≤ 140737488355328) (hb : b.length ≤ 140737488355328) :
    Pc (Cf G) 279 [.psl (u32s a) a.length, .psl (u32s b) b.length] (.sc (.int .i64 (or2 (natChk a) (natChk b)))) := by
  have h1 := pc160 G a ha
  have h2 := pc160 G b hb
  refine Pc_of (Gf_enter (C := Cf G) Tryz.func279 rfl ok279 (Nat.le_of_ble_eq_true rfl) ?_)
  simp only [Tryz.f279, Option.getD_some]
  refine wF1 @bs2 (wa h1 (wa h2 (wa (pc97 G (natChk a) (natChk b)) trivial))) ?_
  simp only [one1, frz_s, Option.map_some]
theorem pc222 (G : Nat → Option (List AV)) (a : List Int) (d : Int) (hc : natChk a = 0) (ha : Limbs a) (hd : 0 < d ∧ d ≤ 4294967295) :
    Pc (Cf G) 222 [.psl (u32s a) a.length, .psl (u32s [d]) 1] (.tup [.psl (u32s (trimL (dmQ a d))) (trimL (dmQ a d)).length, .psl (u32s (trimL [nv a % d])) (trimL [nv a % d]).length, .sc (.int .i64 0)]) := by
  obtain ⟨ht, hl⟩ := TopOk_of_chk hc
  have h1 := pc279 G a [d] (by omega) (by simp)
  have h2 := pc280 G a d (by omega) ha ht hd
  have e : or2 (natChk a) (natChk [d]) = 0 := by
    have h0 : ¬ d = 0 := by omega
    have e1 : natChk [d] = 0 := by simp [natChk, h0]
    simp [or2, hc, e1]
  rw [e] at h1
  simp only [List.length_cons, List.length_nil, Nat.zero_add] at h1
  refine Pc_of (Gf_enter (C := Cf G) Tryz.func222 rfl ok222 (Nat.le_of_ble_eq_true rfl) ?_)
  simp only [Tryz.f222, Option.getD_some]
  refine wC1 (wa @Int.natCast_one @Int.one_ne_zero) (wa h1 (wa h2 trivial)) ?_
  simp only [one1, frz_t, mapF, frz_l, frz_s, Option.map_some, List.append_nil]
theorem rem_empty {a : List Int} {d : Int} (hd : 0 < d) : ((trimL [nv a % d]).length : Int) = 0 ↔ nv a % d = 0 := by
  by_cases h : nv a % d = 0
  · simp [h, trimL]
  · simp [h, trimL]
theorem pc161 (G : Nat → Option (List AV)) (a : List Int) (hc : natChk a = 0) (ha : Limbs a) :
    Pc (Cf G) 161 [.psl (u32s a) a.length] (.tup [.psl (u32s (trimL (dmQ a 10))) (trimL (dmQ a 10)).length, .sc (.bool (decide (nv a % 10 = 0)))]) := by
  have h1 := pc159 G 10 (by omega)
  have h2 := pc222 G a 10 hc ha (by omega)
  have e : trimL [(10 : Int) % 4294967296, 10 / 4294967296] = [10] := by decide
  rw [e] at h1
  have hd : decide (((trimL [nv a % 10]).length : Int) = 0) = decide (nv a % 10 = 0) := by
    rw [decide_eq_decide]
    exact rem_empty (by omega)
  simp only [List.length_cons, List.length_nil, Nat.zero_add] at h1
  refine Pc_of (Gf_enter (C := Cf G) Tryz.func161 rfl ok161 (Nat.le_of_ble_eq_true rfl) ?_)
  simp only [Tryz.f161, Option.getD_some]
  refine wC1 hd (wa h1 (wa h2 trivial)) ?_
  simp only [one1, frz_t, mapF, frz_l, frz_s, Option.map_some, List.append_nil]
end Go.Proofs.Bv
namespace Go.Proofs.Bv
open Go
def rowM (x : Int) : List Int → List Int → Int → List Int
  | _, [], _ => []
  | [], _ :: os, c => c :: os
  | y :: ys, o :: os, c => (x * y + o + c) % 4294967296 :: rowM x ys os ((x * y + o + c) / 4294967296)
def mulF (b : List Int) : List Int → List Int → List Int
  | [], out => out
  | _ :: _, [] => []
  | x :: xs, o :: os => match rowM x b (o :: os) 0 with
    | [] => []
    | r :: rs => r :: mulF b xs rs
theorem mul_le {x y : Int} (hx : 0 ≤ x ∧ x ≤ 4294967295) (hy : 0 ≤ y ∧ y ≤ 4294967295) : 0 ≤ x * y ∧ x * y ≤ 18446744065119617025 := by
  refine ⟨Int.mul_nonneg hx.1 hy.1, ?_⟩
  have h1 := Int.mul_le_mul_of_nonneg_left hy.2 hx.1
  have h2 := Int.mul_le_mul_of_nonneg_right hx.2 (show (0 : Int) ≤ 4294967295 by omega)
  omega
theorem row_len (x : Int) : (b o : List Int) → (c : Int) → (rowM x b o c).length = o.length
  | b, [], c => by cases b <;> rfl
  | [], o :: os, c => rfl
  | y :: ys, o :: os, c => by simp only [rowM, List.length_cons, row_len x ys os]
theorem row_nv {x : Int} (hx : 0 ≤ x ∧ x ≤ 4294967295) : (b o : List Int) → (c : Int) → Limbs b → Limbs o → 0 ≤ c ∧ c ≤ 4294967295 → o[b.length]? = some 0 → Limbs (rowM x b o c) ∧ nv (rowM x b o c) = nv o + x * nv b + c
  | b, [], c => fun _ _ _ h => by simp at h
  | [], o :: os, c => fun _ ho hc h => by
    simp only [List.length_nil, List.getElem?_cons_zero, Option.some.injEq] at h
    subst h
    refine ⟨Limbs.cons hc ho.tail, ?_⟩
    simp only [rowM, nv]
    omega
  | y :: ys, o :: os, c => fun hb ho hc h => by
    have hm := mul_le hx hb.head
    have h1 := ho.head
    have hq : 0 ≤ (x * y + o + c) / 4294967296 ∧ (x * y + o + c) / 4294967296 ≤ 4294967295 := by omega
    obtain ⟨e1, e2⟩ := row_nv hx ys os ((x * y + o + c) / 4294967296) hb.tail ho.tail hq (by simpa using h)
    simp only [rowM]
    refine ⟨Limbs.cons (by omega) e1, ?_⟩
    simp only [nv, e2]
    have e3 : x * (y + 4294967296 * nv ys) = x * y + 4294967296 * (x * nv ys) := by
      rw [Int.mul_add]
      congr 1
      rw [← Int.mul_assoc, Int.mul_comm x, Int.mul_assoc]
    rw [e3]
    generalize x * nv ys = q
    generalize x * y = p at *
    omega
theorem row_rest (x : Int) : (b o : List Int) → (c : Int) → (j : Nat) → b.length < j → (rowM x b o c)[j]? = o[j]?
  | b, [], c, j, h => by cases b <;> rfl
  | [], o :: os, c, j, h => by
    obtain ⟨j, rfl⟩ : ∃ k, j = k + 1 := ⟨j - 1, by simp at h; omega⟩
    rfl
  | y :: ys, o :: os, c, j, h => by
    obtain ⟨j, rfl⟩ : ∃ k, j = k + 1 := ⟨j - 1, by simp at h; omega⟩
    simp only [rowM, List.getElem?_cons_succ]
    exact row_rest x ys os _ j (by simpa using h)
theorem mulF_nv {b : List Int} (hb : Limbs b) : (a out : List Int) → Limbs a → Limbs out → a.length + b.length ≤ out.length → (∀ j, b.length ≤ j → j < out.length → out[j]? = some 0) → Limbs (mulF b a out) ∧ nv (mulF b a out) = nv out + nv a * nv b
  | [], out => fun _ ho _ _ => ⟨ho, by simp [mulF, nv]⟩
  | x :: xs, [] => fun _ _ h _ => by simp at h
  | x :: xs, o :: os => fun ha ho hl hz => by
    have hz0 := hz b.length (Nat.le_refl _) (by simp only [List.length_cons] at hl ⊢; omega)
    obtain ⟨r1, r2⟩ := row_nv ha.head b (o :: os) 0 hb ho (by omega) hz0
    have r3 := row_len x b (o :: os) 0
    simp only [mulF]
    split
    · rename_i h
      rw [h] at r3
      simp at r3
    · rename_i r rs h
      rw [h] at r1 r2 r3
      have hrs : rs.length = os.length := by simpa using r3
      obtain ⟨e1, e2⟩ := mulF_nv hb xs rs ha.tail r1.tail (by simp only [List.length_cons] at hl; omega) (fun j hj hjl => by
        have := row_rest x b (o :: os) 0 (j + 1) (by omega)
        rw [h] at this
        simp only [List.getElem?_cons_succ] at this
        rw [this]
        have := hz (j + 1) (by omega) (by simp only [List.length_cons]; omega)
        simpa using this)
      refine ⟨Limbs.cons r1.head e1, ?_⟩
      simp only [nv] at r2 ⊢
      rw [e2]
      have e3 : (x + 4294967296 * nv xs) * nv b = x * nv b + 4294967296 * (nv xs * nv b) := by
        rw [Int.add_mul, Int.mul_assoc]
      rw [e3]
      generalize nv xs * nv b = q
      generalize x * nv b = p at *
      omega
theorem nv_zeros : (n : Nat) → nv (List.replicate n 0) = 0
  | 0 => rfl
  | n + 1 => by simp only [List.replicate_succ, nv, nv_zeros n]; rfl
theorem limbs_zeros (n : Nat) : Limbs (List.replicate n 0) := fun c hc => by rw [List.eq_of_mem_replicate hc]; omega
def mulL (a b : List Int) : List Int := trimL (mulF b a (List.replicate (a.length + b.length) 0))
theorem mulF_len (b : List Int) : (a out : List Int) → (mulF b a out).length = out.length
  | [], out => rfl
  | x :: xs, [] => rfl
  | x :: xs, o :: os => by
    have h := row_len x b (o :: os) 0
    simp only [mulF]
    split
    · rename_i e; rw [e] at h; simp at h
    · rename_i r rs e
      rw [e] at h
      simp only [List.length_cons, mulF_len b xs rs] at h ⊢
      exact h
theorem mulL_nv {a b : List Int} (ha : Limbs a) (hb : Limbs b) : Limbs (mulL a b) ∧ nv (mulL a b) = nv a * nv b ∧ TopOk (mulL a b) := by
  obtain ⟨e1, e2⟩ := mulF_nv hb a (List.replicate (a.length + b.length) 0) ha (limbs_zeros _) (by simp) (fun j _ h => by rw [List.getElem?_replicate, if_pos (by simpa using h)])
  refine ⟨trim_limbs e1, ?_, trim_top _⟩
  unfold mulL
  rw [nv_trim, e2, nv_zeros]
  omega
theorem st_at (p r : List Int) (o v : Int) : (u32s (p ++ o :: r)).take (p.length * 1) ++ [AV.sc (.int .u32 v)] ++ (u32s (p ++ o :: r)).drop (p.length * 1 + 1) = u32s (p ++ v :: r) := by
  have hl : (u32s p).length = p.length := u32s_len p
  have e : u32s (p ++ o :: r) = u32s p ++ .sc (.int .u32 o) :: u32s r := by simp [u32s]
  rw [e, Nat.mul_one, List.take_append_of_le_length (by omega), List.take_of_length_le (by omega), List.drop_append, List.drop_of_length_le (by omega), hl]
  simp [u32s]
theorem ok180 : codeOk 68 (Tryz.f180.body.getD .skip) = true := by kernel_rfl
set_option maxHeartbeats 4000000 in
set_option maxRecDepth 100000 in
theorem pc180 (G : Nat → Option (List AV)) (a b : List Int) (hl : (a.length + b.length) * 4 ≤ 140737488355328) (ha : Limbs a) (hb : Limbs b) :
    Pc (Cf G) 180 [.psl (u32s a) a.length, .psl (u32s b) b.length] (.psl (u32s (mulL a b)) (mulL a b).length) := by
  have w0 : IntKind.i64.wrap ((a.length : Int) + (b.length : Int)) = ((a.length + b.length : Nat) : Int) := by rw [i64 (by omega) (by omega)]; omega
  have h2 : a.length + b.length ≤ 140737488355328 := by omega
  have hc := pc183 G (mulF b a (List.replicate (a.length + b.length) 0)) (by rw [mulF_len]; simp; omega)
  rw [mulF_len, List.length_replicate] at hc
  refine Pc_of (Gf_enter (C := Cf G) Tryz.func180 rfl ok180 (Nat.le_of_ble_eq_true rfl) ?_)
  simp only [Tryz.f180, Option.getD_some]
  refine wB1 (wa w0 (wa hl (wa h2 @rep_one))) ?_
  refine Gc_loop_inv (fun m st => ∃ a1 a2 pre cur, a = a1 ++ a2 ∧ m = a2.length ∧ pre.length = a1.length ∧ cur.length + pre.length = a.length + b.length ∧ Limbs cur ∧ pre ++ mulF b a2 cur = mulF b a (List.replicate (a.length + b.length) 0) ∧
    (∀ j, b.length ≤ j → j < cur.length → cur[j]? = some 0) ∧
    st.T 0 = .psl (u32s a) a.length ∧ st.T 1 = .psl (u32s b) b.length ∧ st.T 5 = .osl 0 0 (a.length + b.length) ∧ st.T 18 = .psl (u32s a) a.length ∧ st.T 19 = .sc (.int .i64 a.length) ∧ st.T 20 = .sc (.int .i64 a1.length) ∧
    st.h 0 = some (.cells (u32s (pre ++ cur)) 1 false)) ?_ a.length _ ⟨[], a, [], _, rfl, rfl, rfl, ?_, limbs_zeros _, rfl, ?_, ?_⟩
  · rintro m ⟨T, h, n⟩ ⟨a1, a2, pre, cur, hab, rfl, hp, hcl, hcu, hfin, hz, t0, t1, t5, t18, t19, t20, q0⟩
    simp only at t0 t1 t5 t18 t19 t20 q0
    cases a2 with
    | nil =>
      have hge : ¬ (a1.length : Int) < (a.length : Int) := by rw [hab]; simp
      have e : pre ++ cur = mulF b a (List.replicate (a.length + b.length) 0) := by simpa [mulF] using hfin
      rw [e] at q0
      have hlen : (u32s (mulF b a (List.replicate (a.length + b.length) 0))).length = a.length + b.length := by rw [u32s_len, mulF_len]; simp
      refine wF1 (wa t0 (wa t1 (wa t5 (wa t18 (wa t19 (wa t20 (wa q0 (wa hge (wa hlen @Nat.mul_one))))))))) (wa hc trivial) ?_
      simp only [one1, frz_l, Option.map_some]
      rfl
    | cons x a2 =>
      have hlt : (a1.length : Int) < (a.length : Int) := by rw [hab]; simp; omega
      have hltn : a1.length < a.length := by omega
      have hx := u32s_at (l := a) (k := a1.length) (x := x) (by rw [hab]; simp)
      have hxl := ha x (by rw [hab]; simp)
      refine wB1 (wa t0 (wa t1 (wa t5 (wa t18 (wa t19 (wa t20 (wa q0 (wa hlt (wa hltn hx))))))))) ?_
      have hcu0 : cur ≠ [] := by
        intro e
        rw [e] at hcl
        simp at hcl
        omega
      have hzb := hz b.length (Nat.le_refl _) (by omega)
      obtain ⟨hr1, hr2⟩ := row_nv hxl b cur 0 hb hcu (by omega) hzb
      have hr3 := row_len x b cur 0
      refine Gc_loop_inv (fun m st => ∃ b1 b2 q cur2 c, b = b1 ++ b2 ∧ m = b2.length ∧ q.length = b1.length ∧ cur2.length + q.length = cur.length ∧ Limbs cur2 ∧ q ++ rowM x b2 cur2 c = rowM x b cur 0 ∧ 0 ≤ c ∧ c ≤ 4294967295 ∧
        st.T 0 = .psl (u32s a) a.length ∧ st.T 1 = .psl (u32s b) b.length ∧ st.T 5 = .osl 0 0 (a.length + b.length) ∧ st.T 18 = .psl (u32s a) a.length ∧ st.T 19 = .sc (.int .i64 a.length) ∧ st.T 20 = .sc (.int .i64 a1.length) ∧
        st.T 6 = .sc (.int .i64 a1.length) ∧ st.T 7 = .sc (.int .u32 x) ∧ st.T 8 = .sc (.int .u64 c) ∧ st.T 25 = .psl (u32s b) b.length ∧ st.T 26 = .sc (.int .i64 b.length) ∧ st.T 27 = .sc (.int .i64 b1.length) ∧
        st.h 0 = some (.cells (u32s ((pre ++ q) ++ cur2)) 1 false)) ?_ b.length _ ⟨[], b, [], cur, 0, rfl, rfl, rfl, by simp, hcu, rfl, by omega, by omega, ?_⟩
      · rintro m ⟨T, h, n⟩ ⟨b1, b2, q, cur2, c, hbb, rfl, hq, hcl2, hcu2, hrow, hc0, hc1, t0, t1, t5, t18, t19, t20, t6, t7, t8, t25, t26, t27, q0⟩
        simp only at t0 t1 t5 t18 t19 t20 t6 t7 t8 t25 t26 t27 q0
        have hpq : (pre ++ q).length = a1.length + b1.length := by rw [List.length_append, hp, hq]
        have hblen : b.length = b1.length + b2.length := by rw [hbb, List.length_append]
        cases cur2 with
        | nil => simp at hcl2; omega
        | cons o os =>
          have w1 : IntKind.i64.wrap ((a1.length : Int) + (b1.length : Int)) = (((pre ++ q).length : Nat) : Int) := by rw [i64 (by omega) (by omega), hpq]; omega
          have hin : (pre ++ q).length < a.length + b.length := by simp only [List.length_cons] at hcl2; omega
          have hin2 : (pre ++ q).length * 1 + 1 ≤ (u32s ((pre ++ q) ++ o :: os)).length := by rw [u32s_len]; simp; omega
          cases b2 with
          | nil =>
            have hge : ¬ (b1.length : Int) < (b.length : Int) := by rw [hbb]; simp
            have hbe : b1 = b := by rw [hbb]; simp
            have wc : IntKind.u32.wrap c = c := IntWalk.u32_in _ (by omega)
            have w2 : IntKind.i64.wrap ((a1.length : Int) + (b.length : Int)) = (((pre ++ q).length : Nat) : Int) := by rw [← hbe]; exact w1
            have w3 : IntKind.i64.wrap ((a1.length : Int) + 1) = (a1.length : Int) + 1 := i64 (by omega) (by omega)
            have hst := st_at (pre ++ q) os o c
            refine wB1 (wa t0 (wa t1 (wa t5 (wa t18 (wa t19 (wa t20 (wa t6 (wa t7 (wa t8 (wa t25 (wa t26 (wa t27 (wa q0 (wa hge (wa wc (wa w2 (wa w3 (wa hin (wa hin2 hst))))))))))))))))))) ?_
            have e1 : q ++ c :: os = rowM x b cur 0 := by simpa [rowM] using hrow
            cases hcur : cur with
            | nil => exact absurd hcur hcu0
            | cons o0 os0 =>
              rw [hcur] at e1 hr1 hr3 hfin hcl hz
              cases hrr : rowM x b (o0 :: os0) 0 with
              | nil => rw [hrr] at hr3; simp at hr3
              | cons r rs =>
                rw [hrr] at e1 hr1 hr3
                have hrs : rs.length = os0.length := by simpa using hr3
                refine ⟨a2.length, by simp, a1 ++ [x], a2, pre ++ [r], rs, by simp [hab], rfl, by simp [hp], ?_, hr1.tail, ?_, ?_, ?_, ?_, ?_, ?_, ?_, ?_, ?_⟩
                · simp only [List.length_append, List.length_cons, List.length_nil] at hcl ⊢; omega
                · rw [← hfin]
                  simp only [mulF, hrr, List.append_assoc, List.singleton_append]
                · intro j hj hjl
                  have h1 := row_rest x b (o0 :: os0) 0 (j + 1) (by omega)
                  rw [hrr] at h1
                  simp only [List.getElem?_cons_succ] at h1
                  rw [h1]
                  have h2 := hz (j + 1) (by omega) (by simp only [List.length_cons]; omega)
                  simpa using h2
                all_goals simp [upd_ap, t0, t1, t5, t18, t19, ← e1]
          | cons y b2 =>
            have hlt2 : (b1.length : Int) < (b.length : Int) := by rw [hbb]; simp; omega
            have hltn2 : b1.length < b.length := by omega
            have hy := u32s_at (l := b) (k := b1.length) (x := y) (by rw [hbb]; simp)
            have hyl := hb y (by rw [hbb]; simp)
            have hm := mul_le hxl hyl
            have ho := hcu2.head
            have hoat := u32s_at (l := (pre ++ q) ++ o :: os) (k := (pre ++ q).length) (x := o) (by simp)
            have cx : IntKind.u64.wrap x = x := IntWalk.u64_in _ (by omega)
            have cy : IntKind.u64.wrap y = y := IntWalk.u64_in _ (by omega)
            have co : IntKind.u64.wrap o = o := IntWalk.u64_in _ (by omega)
            have m1 : IntKind.u64.wrap (x * y) = x * y := IntWalk.u64_in _ (by omega)
            have m2 : IntKind.u64.wrap (x * y + o) = x * y + o := IntWalk.u64_in _ (by omega)
            have m3 : IntKind.u64.wrap (x * y + o + c) = x * y + o + c := IntWalk.u64_in _ (by omega)
            have m4 : IntKind.u32.wrap (x * y + o + c) = (x * y + o + c) % 4294967296 := IntKind.wrap_u32 _
            have w4 : IntKind.i64.wrap ((b1.length : Int) + 1) = (b1.length : Int) + 1 := i64 (by omega) (by omega)
            have hst := st_at (pre ++ q) os o ((x * y + o + c) % 4294967296)
            refine wB1 (wa t0 (wa t1 (wa t5 (wa t18 (wa t19 (wa t20 (wa t6 (wa t7 (wa t8 (wa t25 (wa t26 (wa t27 (wa q0 (wa hlt2 (wa hltn2 (wa w1 (wa w4 (wa hin (wa hin2 (wa hst (wa hy (wa hoat (wa cx (wa cy (wa co (wa m1 (wa m2 (wa m3 m4)))))))))))))))))))))))))))) ?_
            refine ⟨b2.length, by simp, b1 ++ [y], b2, q ++ [(x * y + o + c) % 4294967296], os, (x * y + o + c) / 4294967296, by simp [hbb], rfl, by simp [hq], ?_, hcu2.tail, ?_, by omega, by omega, ?_⟩
            · simp only [List.length_append, List.length_cons, List.length_nil] at hcl2 ⊢; omega
            · rw [← hrow]
              simp [rowM]
            · simp [upd_ap, t0, t1, t5, t18, t19, t20, t6, t7, t25, t26]
      · simp [upd_ap, t0, t1, t5, t18, t19, t20, q0]
  · simp
  · intro j _ h
    rw [List.getElem?_replicate, if_pos (by simpa using h)]
  · simp [upd_ap, argsT]
end Go.Proofs.Bv
namespace Go.Proofs.Bv
open Go
def addF : List Int → List Int → Int → List Int
  | [], _, c => [c]
  | x :: xs, bs, c => (x + bs.headD 0 + c) % 4294967296 :: addF xs bs.tail ((x + bs.headD 0 + c) / 4294967296)
theorem headD_rng {b : List Int} (hb : Limbs b) : 0 ≤ b.headD 0 ∧ b.headD 0 ≤ 4294967295 := by
  cases b with
  | nil => simp
  | cons y b => exact hb.head
theorem nv_head (b : List Int) : nv b = b.headD 0 + 4294967296 * nv b.tail := by
  cases b with
  | nil => rfl
  | cons y b => rfl
theorem Limbs.tl {b : List Int} (hb : Limbs b) : Limbs b.tail := by
  cases b with
  | nil => exact hb
  | cons y b => exact Limbs.tail hb
theorem addF_nv : (a b : List Int) → (c : Int) → Limbs a → Limbs b → b.length ≤ a.length → 0 ≤ c ∧ c ≤ 1 → Limbs (addF a b c) ∧ nv (addF a b c) = nv a + nv b + c
  | [], b, c => fun _ _ hl hc => by
    obtain rfl : b = [] := List.eq_nil_of_length_eq_zero (by simpa using hl)
    refine ⟨Limbs.cons (by omega) (fun _ h => by simp at h), ?_⟩
    simp only [addF, nv]
    omega
  | x :: xs, b, c => fun ha hb hl hc => by
    have h1 := ha.head
    have h2 := headD_rng hb
    obtain ⟨e1, e2⟩ := addF_nv xs b.tail ((x + b.headD 0 + c) / 4294967296) ha.tail hb.tl (by rw [List.length_tail]; simp only [List.length_cons] at hl; omega) (by omega)
    refine ⟨Limbs.cons (by omega) e1, ?_⟩
    have e3 := nv_head b
    simp only [addF, nv, e2]
    generalize nv b.tail = q at *
    omega
theorem addF_len : (a b : List Int) → (c : Int) → (addF a b c).length = a.length + 1
  | [], _, _ => rfl
  | x :: xs, b, c => by simp only [addF, List.length_cons, addF_len xs]
def addL (a b : List Int) : List Int := if a.length < b.length then trimL (addF b a 0) else trimL (addF a b 0)
theorem addL_nv {a b : List Int} (ha : Limbs a) (hb : Limbs b) : Limbs (addL a b) ∧ nv (addL a b) = nv a + nv b ∧ TopOk (addL a b) := by
  unfold addL
  split
  · rename_i h
    obtain ⟨e1, e2⟩ := addF_nv b a 0 hb ha (by omega) (by omega)
    exact ⟨trim_limbs e1, by rw [nv_trim, e2]; omega, trim_top _⟩
  · rename_i h
    obtain ⟨e1, e2⟩ := addF_nv a b 0 ha hb (by omega) (by omega)
    exact ⟨trim_limbs e1, by rw [nv_trim, e2]; omega, trim_top _⟩
theorem ok237 : codeOk 22 (Tryz.f237.body.getD .skip) = true := by kernel_rfl
theorem ok181 : codeOk 56 (Tryz.f181.body.getD .skip) = true := by kernel_rfl
theorem pc237 (G : Nat → Option (List AV)) (x y c : Int) (hx : 0 ≤ x ∧ x ≤ 4294967295) (hy : 0 ≤ y ∧ y ≤ 4294967295) (hc : 0 ≤ c ∧ c ≤ 1) :
    Pc (Cf G) 237 [.sc (.int .u32 x), .sc (.int .u32 y), .sc (.int .u32 c)] (.tup [.sc (.int .u32 ((x + y + c) % 4294967296)), .sc (.int .u32 ((x + y + c) / 4294967296))]) := by
  have cx : IntKind.u64.wrap x = x := IntWalk.u64_in _ (by omega)
  have cy : IntKind.u64.wrap y = y := IntWalk.u64_in _ (by omega)
  have cc : IntKind.u64.wrap c = c := IntWalk.u64_in _ (by omega)
  have m1 : IntKind.u64.wrap (x + y) = x + y := IntWalk.u64_in _ (by omega)
  have m2 : IntKind.u64.wrap (x + y + c) = x + y + c := IntWalk.u64_in _ (by omega)
  have m3 : IntKind.u32.wrap (x + y + c) = (x + y + c) % 4294967296 := IntKind.wrap_u32 _
  have m4 : IntKind.u32.wrap ((x + y + c) / 4294967296) = (x + y + c) / 4294967296 := IntWalk.u32_in _ (by omega)
  refine Pc_of (Gf_enter (C := Cf G) Tryz.func237 rfl ok237 (Nat.le_of_ble_eq_true rfl) ?_)
  simp only [Tryz.f237, Option.getD_some]
  refine wB1 (wa cx (wa cy (wa cc (wa m1 (wa m2 (wa m3 m4)))))) ?_
  simp only [one1, frz_t, mapF, frz_s, Option.map_some, List.append_nil]
theorem bs1l (a : Int) : fillA (fun i => some (i * 1, 1)) (rep 1 [AV.sc (.int .u32 0)]) [(0, .sc (.int .u32 a))] = some [.sc (.int .u32 a)] := rfl
theorem snoc_u (d : List Int) (x : Int) : u32s d ++ [AV.sc (.int .u32 x)] = u32s (d ++ [x]) := by simp [u32s]
theorem cutu (d : List Int) : cut (u32s d) 0 (d.length * 1) = u32s d := by rw [u32s_cut, List.take_length]
set_option maxHeartbeats 4000000 in
set_option maxRecDepth 100000 in
theorem pc181 (G : Nat → Option (List AV)) (a b : List Int) (hl : (a.length + b.length + 1) * 4 ≤ 140737488355328) (ha : Limbs a) (hb : Limbs b) :
    Pc (Cf G) 181 [.psl (u32s a) a.length, .psl (u32s b) b.length] (.psl (u32s (addL a b)) (addL a b).length) := by
  obtain ⟨A, B, hAB, hA, hB, hle, hsum⟩ : ∃ A B, (if a.length < b.length then A = b ∧ B = a else A = a ∧ B = b) ∧ Limbs A ∧ Limbs B ∧ B.length ≤ A.length ∧ (addL a b = trimL (addF A B 0)) := by
    by_cases h : a.length < b.length
    · exact ⟨b, a, by rw [if_pos h]; exact ⟨rfl, rfl⟩, hb, ha, by omega, by unfold addL; rw [if_pos h]⟩
    · exact ⟨a, b, by rw [if_neg h]; exact ⟨rfl, rfl⟩, ha, hb, by omega, by unfold addL; rw [if_neg h]⟩
  have hAl : (A.length + 1) * 4 ≤ 140737488355328 := by
    split at hAB <;> (obtain ⟨rfl, rfl⟩ := hAB; omega)
  have hc := pc183 G (addF A B 0) (by rw [addF_len]; omega)
  rw [addF_len] at hc
  rw [hsum]
  have w0 : IntKind.i64.wrap ((A.length : Int) + 1) = ((A.length + 1 : Nat) : Int) := by rw [i64 (by omega) (by omega)]; omega
  have h2 : A.length + 1 ≤ 140737488355328 := by omega
  refine Pc_of (Gf_enter (C := Cf G) Tryz.func181 rfl ok181 (Nat.le_of_ble_eq_true rfl) ?_)
  simp only [Tryz.f181, Option.getD_some]
  by_cases h : a.length < b.length
  all_goals
    first | (have h' : (a.length : Int) < (b.length : Int) := by omega) | (have h' : ¬ (a.length : Int) < (b.length : Int) := by omega)
    first | rw [if_pos h] at hAB | rw [if_neg h] at hAB
    obtain ⟨rfl, rfl⟩ := hAB
    refine wB1 (wa h' (wa w0 (wa hAl (wa h2 @Nat.zero_le)))) ?_
    refine Gc_loop_inv (fun m st => ∃ a1 a2 b2 out c p, A = a1 ++ a2 ∧ m = a2.length ∧ b2 = B.drop a1.length ∧ out.length = a1.length ∧ out ++ addF a2 b2 c = addF A B 0 ∧ 0 ≤ c ∧ c ≤ 1 ∧
      st.T 0 = .psl (u32s A) A.length ∧ st.T 1 = .psl (u32s B) B.length ∧ st.T 5 = .osl p 0 out.length ∧ st.T 6 = .sc (.int .u32 c) ∧ st.T 23 = .psl (u32s A) A.length ∧ st.T 24 = .sc (.int .i64 A.length) ∧ st.T 25 = .sc (.int .i64 a1.length) ∧
      p < st.n ∧ st.h p = some (.cells (u32s out) 1 false)) ?_ A.length _ ⟨[], A, B, [], 0, 0, rfl, rfl, rfl, rfl, rfl, by omega, by omega, ?_⟩
    · rintro m ⟨T, h, n⟩ ⟨a1, a2, b2, out, c, p, hAA, rfl, rfl, hol, hfin, hc0, hc1, t0, t1, t5, t6, t23, t24, t25, hp, q0⟩
      simp only at t0 t1 t5 t6 t23 t24 t25 hp q0
      have hpn : ¬ p = n := by omega
      have hpn1 : ¬ p = n + 1 := by omega
      have hnp : ¬ n = p := by omega
      have hAlen : A.length = a1.length + a2.length := by rw [hAA, List.length_append]
      have g1 : (out.length + 1) * 4 ≤ 140737488355328 := by omega
      have g2 : out.length + 1 ≤ 140737488355328 := by omega
      have g3 : out.length * 1 ≤ (u32s out).length := by rw [u32s_len]; omega
      cases a2 with
      | nil =>
        have hge : ¬ (a1.length : Int) < (A.length : Int) := by rw [hAA]; simp
        have e : out ++ [c] = addF A B 0 := hfin
        have e2 : out.length + 1 = A.length + 1 := by simp only [List.length_nil] at hAlen; omega
        have e3 : ((u32s (out ++ [c])).length = (out.length + 1) * 1) = True := by rw [u32s_len]; simp
        rw [← e, ← e2] at hc
        rw [← e]
        refine wF1 (wa t0 (wa t1 (wa t5 (wa t6 (wa t23 (wa t24 (wa t25 (wa q0 (wa hge (wa hpn (wa hpn1 (wa hnp (wa g1 (wa g2 (wa g3 (wa @cutu (wa @snoc_u e3))))))))))))))))) (wa hc trivial) ?_
        simp only [one1, frz_l, Option.map_some]
      | cons x a2 =>
        have hlt : (a1.length : Int) < (A.length : Int) := by rw [hAA]; simp; omega
        have hltn : a1.length < A.length := by omega
        have hx := u32s_at (l := A) (k := a1.length) (x := x) (by rw [hAA]; simp)
        have hxl := hA x (by rw [hAA]; simp)
        have w4 : IntKind.i64.wrap ((a1.length : Int) + 1) = (a1.length : Int) + 1 := i64 (by omega) (by omega)
        have hyl := headD_rng (b := B.drop a1.length) (fun y hy => hB y (List.mem_of_mem_drop hy))
        have hadd := pc237 G x ((B.drop a1.length).headD 0) c hxl hyl ⟨hc0, hc1⟩
        by_cases hlb : a1.length < B.length
        · have hlbi : (a1.length : Int) < (B.length : Int) := by omega
          have hy := u32s_at (l := B) (k := a1.length) (x := (B.drop a1.length).headD 0) (by rw [List.headD_eq_head?_getD, List.head?_drop, List.getElem?_eq_getElem hlb]; rfl)
          refine wC1 (wa t0 (wa t1 (wa t5 (wa t6 (wa t23 (wa t24 (wa t25 (wa q0 (wa hlt (wa hltn (wa hx (wa hlbi (wa hlb (wa hy (wa w4 (wa hpn (wa hpn1 (wa hnp (wa g1 (wa g2 (wa g3 (wa @cutu @snoc_u)))))))))))))))))))))) (wa hadd trivial) ?_
          refine ⟨a2.length, by simp, a1 ++ [x], a2, (B.drop a1.length).tail, out ++ [(x + (B.drop a1.length).headD 0 + c) % 4294967296], (x + (B.drop a1.length).headD 0 + c) / 4294967296, n + 1, by simp [hAA], rfl, by rw [List.tail_drop]; simp, by simp [hol], ?_, by omega, by omega, ?_⟩
          · rw [← hfin]
            simp only [addF, List.append_assoc, List.singleton_append]
          · simp [upd_ap, t0, t1, t23, t24]
        · have hlbi : ¬ (a1.length : Int) < (B.length : Int) := by omega
          have hy0 : (B.drop a1.length).headD 0 = 0 := by rw [List.drop_of_length_le (by omega)]; rfl
          rw [hy0] at hadd
          have hbn : B[a1.length]? = none := List.getElem?_eq_none (by omega)
          refine wC1 (wa t0 (wa t1 (wa t5 (wa t6 (wa t23 (wa t24 (wa t25 (wa q0 (wa hlt (wa hltn (wa hx (wa hlbi (wa w4 (wa hpn (wa hpn1 (wa hnp (wa g1 (wa g2 (wa g3 (wa @cutu @snoc_u)))))))))))))))))))) (wa hadd trivial) ?_
          refine ⟨a2.length, by simp, a1 ++ [x], a2, (B.drop a1.length).tail, out ++ [(x + (B.drop a1.length).headD 0 + c) % 4294967296], (x + (B.drop a1.length).headD 0 + c) / 4294967296, n + 1, by simp [hAA], rfl, by rw [List.tail_drop]; simp, by simp [hol], ?_, by omega, by omega, ?_⟩
          · rw [← hfin]
            simp only [addF, List.append_assoc, List.singleton_append]
          · simp [upd_ap, t0, t1, t23, t24, hbn]
    · simp [upd_ap, argsT, u32s]
end Go.Proofs.Bv
namespace Go.Proofs.Bv
open Go
def lim (n : Nat) : List Int := if h : n = 0 then [] else ((n % 4294967296 : Nat) : Int) :: lim (n / 4294967296)
termination_by n
decreasing_by omega
def Canon (l : List Int) : Prop := Limbs l ∧ TopOk l
theorem lim_zero : lim 0 = [] := by rw [lim]; simp
theorem lim_pos {n : Nat} (h : 0 < n) : lim n = ((n % 4294967296 : Nat) : Int) :: lim (n / 4294967296) := by
  rw [lim]
  rw [dif_neg (by omega)]
theorem lim_nil {n : Nat} : lim n = [] ↔ n = 0 := by
  constructor
  · intro h
    rcases Nat.eq_zero_or_pos n with h0 | h0
    · exact h0
    · rw [lim_pos h0] at h; cases h
  · rintro rfl; exact lim_zero
theorem nv_lim (n : Nat) : nv (lim n) = n := by
  induction n using Nat.strongRecOn with
  | ind n ih =>
    rcases Nat.eq_zero_or_pos n with rfl | h0
    · rw [lim_zero]; rfl
    · rw [lim_pos h0, nv, ih _ (by omega)]
      omega
theorem lim_limbs (n : Nat) : Limbs (lim n) := by
  induction n using Nat.strongRecOn with
  | ind n ih =>
    rcases Nat.eq_zero_or_pos n with rfl | h0
    · rw [lim_zero]; exact fun _ h => by simp at h
    · rw [lim_pos h0]
      exact Limbs.cons (by omega) (ih _ (by omega))
theorem lim_top (n : Nat) : TopOk (lim n) := by
  induction n using Nat.strongRecOn with
  | ind n ih =>
    rcases Nat.eq_zero_or_pos n with rfl | h0
    · rw [lim_zero]; exact fun _ h => by simp at h
    · rw [lim_pos h0]
      intro x hx
      cases hq : lim (n / 4294967296) with
      | nil =>
        rw [hq] at hx
        have := lim_nil.1 hq
        simp at hx
        omega
      | cons y r =>
        have := ih (n / 4294967296) (by omega)
        rw [hq] at this hx
        exact this x (by simpa [List.getLast?_cons_cons] using hx)
theorem lim_canon (n : Nat) : Canon (lim n) := ⟨lim_limbs n, lim_top n⟩
theorem canon_uniq : {a b : List Int} → Canon a → Canon b → nv a = nv b → a = b
  | [], b, _, hb, h => ((nv_zero_iff hb.1 hb.2).1 (by rw [← h]; rfl)).symm
  | x :: a, [], ha, _, h => (nv_zero_iff ha.1 ha.2).1 (by rw [h]; rfl)
  | x :: a, y :: b, ha, hb, h => by
    have h1 := ha.1.head
    have h2 := hb.1.head
    simp only [nv] at h
    have ta : TopOk a := by
      cases a with
      | nil => exact fun _ h => by simp at h
      | cons z a => exact ha.2.tail
    have tb : TopOk b := by
      cases b with
      | nil => exact fun _ h => by simp at h
      | cons z b => exact hb.2.tail
    have e : x = y := by omega
    subst e
    rw [canon_uniq ⟨ha.1.tail, ta⟩ ⟨hb.1.tail, tb⟩ (by omega)]
theorem canon_lim {a : List Int} (h : Canon a) {n : Nat} (hn : nv a = n) : a = lim n := canon_uniq h (lim_canon n) (by rw [hn, nv_lim])
theorem mul_lim (a b : Nat) : mulL (lim a) (lim b) = lim (a * b) := by
  obtain ⟨h1, h2, h3⟩ := mulL_nv (lim_limbs a) (lim_limbs b)
  exact canon_lim ⟨h1, h3⟩ (by rw [h2, nv_lim, nv_lim]; simp)
theorem add_lim (a b : Nat) : addL (lim a) (lim b) = lim (a + b) := by
  obtain ⟨h1, h2, h3⟩ := addL_nv (lim_limbs a) (lim_limbs b)
  exact canon_lim ⟨h1, h3⟩ (by rw [h2, nv_lim, nv_lim]; simp)
theorem trim_lim {l : List Int} (hl : Limbs l) {n : Nat} (hn : nv l = n) : trimL l = lim n := canon_lim ⟨trim_limbs hl, trim_top l⟩ (by rw [nv_trim, hn])
theorem trim_lim1 (n : Nat) (h : n ≤ 4294967295) : trimL [(n : Int)] = lim n := trim_lim (fun c hc => by simp at hc; omega) (by simp [nv])
theorem lim_len : (k n : Nat) → n < 10 ^ k → (lim n).length ≤ k
  | 0, n, h => by
    have : n = 0 := by simpa using h
    rw [this, lim_zero]
    simp
  | k + 1, n, h => by
    rcases Nat.eq_zero_or_pos n with rfl | h0
    · rw [lim_zero]; simp
    · rw [lim_pos h0, List.length_cons]
      have := lim_len k (n / 4294967296) (by rw [Nat.pow_succ] at h; omega)
      omega
theorem lim_one {n : Nat} (h0 : 0 < n) (h : n ≤ 4294967295) : lim n = [(n : Int)] := by
  rw [lim_pos h0, show n / 4294967296 = 0 by omega, lim_zero, show n % 4294967296 = n by omega]
theorem lim_mono : {a b : Nat} → a ≤ b → (lim a).length ≤ (lim b).length := by
  intro a
  induction a using Nat.strongRecOn with
  | ind a ih =>
    intro b h
    rcases Nat.eq_zero_or_pos a with rfl | h0
    · rw [lim_zero]; simp
    · rw [lim_pos h0, lim_pos (show 0 < b by omega), List.length_cons, List.length_cons]
      have := ih (a / 4294967296) (by omega) (b := b / 4294967296) (by omega)
      omega
def lsl (n : Nat) : AV := .psl (u32s (lim n)) (lim n).length
theorem pcMul (G : Nat → Option (List AV)) (a b k j : Nat) (ha : a < 10 ^ k) (hb : b < 10 ^ j) (hk : k + j ≤ 1000000) : Pc (Cf G) 180 [lsl a, lsl b] (lsl (a * b)) := by
  have h1 := lim_len k a ha
  have h2 := lim_len j b hb
  have := pc180 G (lim a) (lim b) (by omega) (lim_limbs a) (lim_limbs b)
  rw [mul_lim] at this
  exact this
theorem pcAdd (G : Nat → Option (List AV)) (a b k j : Nat) (ha : a < 10 ^ k) (hb : b < 10 ^ j) (hk : k + j ≤ 1000000) : Pc (Cf G) 181 [lsl a, lsl b] (lsl (a + b)) := by
  have h1 := lim_len k a ha
  have h2 := lim_len j b hb
  have := pc181 G (lim a) (lim b) (by omega) (lim_limbs a) (lim_limbs b)
  rw [add_lim] at this
  exact this
theorem pcTrim1 (G : Nat → Option (List AV)) (n : Nat) (h : n ≤ 4294967295) : Pc (Cf G) 183 [.psl [.sc (.int .u32 n)] 1] (lsl n) := by
  have := pc183 G [(n : Int)] (by simp)
  rw [trim_lim1 n h] at this
  exact this
end Go.Proofs.Bv
namespace Go.Proofs.Bv
open Go
def dstr (l : List Nat) : ByteArray := ⟨(l.map dByte).toArray⟩
def mv (l : List Nat) : Nat := l.foldl (fun a d => 10 * a + d) 0
theorem mv_go (l : List Nat) : ∀ a, l.foldl (fun a d => 10 * a + d) a = a * 10 ^ l.length + mv l := by
  induction l with
  | nil => intro a; simp [mv]
  | cons d l ih =>
    intro a
    simp only [mv, List.foldl_cons, List.length_cons]
    rw [ih, ih (10 * 0 + d), Nat.pow_succ]
    have e : (10 * a + d) * 10 ^ l.length = a * (10 ^ l.length * 10) + (10 * 0 + d) * 10 ^ l.length := by
      rw [Nat.add_mul, Nat.mul_comm 10 a, Nat.mul_assoc, Nat.mul_comm 10 (10 ^ l.length)]
      simp
    omega
theorem mv_app (a b : List Nat) : mv (a ++ b) = mv a * 10 ^ b.length + mv b := by
  unfold mv
  rw [List.foldl_append]
  exact mv_go b _
theorem mv_lt : (l : List Nat) → (∀ d ∈ l, d < 10) → mv l < 10 ^ l.length := by
  intro l
  induction l with
  | nil => intro _; simp [mv]
  | cons d l ih =>
    intro h
    have h1 := ih fun x hx => h x (by simp [hx])
    have h2 := h d (by simp)
    have e : mv (d :: l) = d * 10 ^ l.length + mv l := by
      have := mv_app [d] l
      simpa [mv] using this
    rw [e, List.length_cons, Nat.pow_succ]
    have : d * 10 ^ l.length ≤ 9 * 10 ^ l.length := Nat.mul_le_mul_right _ (by omega)
    omega
theorem dstr_size (l : List Nat) : (dstr l).size = l.length := by
  show ((l.map dByte).toArray).size = _
  simp
theorem dByte_nat {d : Nat} (h : d < 10) : (dByte d).toNat = 48 + d := by
  unfold dByte
  rw [UInt8.toNat_ofNat']
  omega
theorem dstr_cells {l : List Nat} (h : ∀ d ∈ l, d < 10) : byteCells (dstr l) = u8s l := by
  unfold byteCells u8s dstr
  simp only [List.map_map]
  refine List.map_congr_left fun d hd => ?_
  simp only [Function.comp, dByte_nat (h d hd)]
  simp
theorem dstr_cut (l : List Nat) (a b : Nat) : (dstr l).extract a b = dstr ((l.take b).drop a) := by
  apply ByteArray.ext
  rw [ByteArray.data_extract]
  apply Array.toList_inj.1
  simp [dstr, List.map_drop, List.map_take, List.extract_eq_take_drop, List.drop_take]
theorem u8s_at {l : List Nat} {k d : Nat} (h : l[k]? = some d) : (u8s l)[k * 1]? = some (.sc (.int .u8 (48 + (d : Int)))) := by simp [u8s, h]
theorem ok178 : codeOk 9 (Tryz.f178.body.getD .skip) = true := by kernel_rfl
theorem ok179 : codeOk 9 (Tryz.f179.body.getD .skip) = true := by kernel_rfl
theorem ok182 : codeOk 21 (Tryz.f182.body.getD .skip) = true := by kernel_rfl
theorem ok236 : codeOk 19 (Tryz.f236.body.getD .skip) = true := by kernel_rfl
theorem pc179 (G : Nat → Option (List AV)) (d : Nat) (h : d < 10) : Pc (Cf G) 179 [.sc (.int .u8 (48 + (d : Int)))] (.sc (.bool false)) := by
  have h1 : ¬ (48 + (d : Int)) < 48 := by omega
  have h2 : ¬ 57 < (48 + (d : Int)) := by omega
  refine Pc_of (Gf_enter (C := Cf G) Tryz.func179 rfl ok179 (Nat.le_of_ble_eq_true rfl) ?_)
  simp only [Tryz.f179, Option.getD_some]
  refine wB1 (wa h1 h2) ?_
  simp only [one1, frz_s, Option.map_some]
set_option maxHeartbeats 2000000 in
theorem pc236 (G : Nat → Option (List AV)) (l : List Nat) (hn : l.length ≤ 140737488355328) (h : ∀ d ∈ l, d < 10) : Pc (Cf G) 236 [.psl (u8s l) l.length, .fn (.func 179) []] (.sc (.int .i64 (-1))) := by
  refine Pc_of (Gf_enter (C := Cf G) Tryz.func236 rfl ok236 (Nat.le_of_ble_eq_true rfl) ?_)
  simp only [Tryz.f236, Option.getD_some]
  refine wB1 trivial ?_
  refine Gc_loop_inv (fun m st => ∃ d r, l = d ++ r ∧ m = r.length ∧ st.T 0 = .psl (u8s l) l.length ∧ st.T 1 = .fn (.func 179) [] ∧ st.T 7 = .sc (.int .i64 l.length) ∧ st.T 8 = .sc (.int .i64 d.length)) ?_ l.length _ ⟨[], l, rfl, rfl, ?_⟩
  · rintro m ⟨T, hh, n⟩ ⟨d, r, hdr, rfl, t0, t1, t7, t8⟩
    simp only at t0 t1 t7 t8
    cases r with
    | nil =>
      have hge : ¬ (d.length : Int) < (l.length : Int) := by rw [hdr]; simp
      refine wB1 (wa t0 (wa t1 (wa t7 (wa t8 hge)))) ?_
      simp only [one1, frz_s, Option.map_some]
    | cons x r =>
      have hlt : (d.length : Int) < (l.length : Int) := by rw [hdr]; simp; omega
      have hltn : d.length < l.length := by omega
      have hx := u8s_at (l := l) (k := d.length) (d := x) (by rw [hdr]; simp)
      have hc := pc179 G x (h x (by rw [hdr]; simp))
      have w1 : IntKind.i64.wrap ((d.length : Int) + 1) = (d.length : Int) + 1 := i64 (by omega) (by omega)
      refine wC1 (wa t0 (wa t1 (wa t7 (wa t8 (wa hlt (wa hltn (wa hx w1))))))) (wa hc trivial) ?_
      refine ⟨r.length, by simp, d ++ [x], r, by simp [hdr], rfl, ?_⟩
      simp [upd_ap, t0, t1, t7]
  · simp [upd_ap, argsT]
theorem pc178 (G : Nat → Option (List AV)) (l : List Nat) (hn : l.length ≤ 140737488355328) (h : ∀ d ∈ l, d < 10) : Pc (Cf G) 178 [.psl (u8s l) l.length, .fn (.func 179) []] (.sc (.bool false)) := by
  have hc := pc236 G l hn h
  refine Pc_of (Gf_enter (C := Cf G) Tryz.func178 rfl ok178 (Nat.le_of_ble_eq_true rfl) ?_)
  simp only [Tryz.f178, Option.getD_some]
  refine wC1 trivial (wa hc trivial) ?_
  simp only [one1, frz_s, Option.map_some]
set_option maxHeartbeats 2000000 in
theorem pc182 (G : Nat → Option (List AV)) (l : List Nat) (hn : l.length ≤ 9) (h : ∀ d ∈ l, d < 10) : Pc (Cf G) 182 [.sc (.string (dstr l))] (.sc (.int .u32 (mv l))) := by
  have hcells := dstr_cells h
  have hsz := dstr_size l
  refine Pc_of (Gf_enter (C := Cf G) Tryz.func182 rfl ok182 (Nat.le_of_ble_eq_true rfl) ?_)
  simp only [Tryz.f182, Option.getD_some]
  refine wB1 (wa hcells hsz) ?_
  refine Gc_loop_inv (fun m st => ∃ d r, l = d ++ r ∧ m = r.length ∧ st.T 7 = .psl (u8s l) l.length ∧ st.T 3 = .sc (.int .u32 (mv d)) ∧ st.T 8 = .sc (.int .i64 l.length) ∧ st.T 9 = .sc (.int .i64 d.length)) ?_ l.length _ ⟨[], l, rfl, rfl, ?_⟩
  · rintro m ⟨T, hh, n⟩ ⟨d, r, hdr, rfl, t7, t3, t8, t9⟩
    simp only at t7 t3 t8 t9
    cases r with
    | nil =>
      have hge : ¬ (d.length : Int) < (l.length : Int) := by rw [hdr]; simp
      have e : d = l := by simp [hdr]
      refine wB1 (wa t7 (wa t3 (wa t8 (wa t9 hge)))) ?_
      simp only [one1, frz_s, Option.map_some, e]
    | cons x r =>
      have hlt : (d.length : Int) < (l.length : Int) := by rw [hdr]; simp; omega
      have hltn : d.length < l.length := by omega
      have hxl := h x (by rw [hdr]; simp)
      have hx := u8s_at (l := l) (k := d.length) (d := x) (by rw [hdr]; simp)
      have hm := mv_lt d (fun y hy => h y (by rw [hdr]; simp [hy]))
      have hp : 10 ^ d.length ≤ 10 ^ 8 := Nat.pow_le_pow_right (by omega) (by omega)
      have w1 : IntKind.i64.wrap ((d.length : Int) + 1) = (d.length : Int) + 1 := i64 (by omega) (by omega)
      have m1 : IntKind.u32.wrap ((mv d : Int) * 10) = (mv d : Int) * 10 := IntWalk.u32_in _ (by omega)
      have m2 : IntKind.u8.wrap (48 + (x : Int) - 48) = (x : Int) := by rw [show 48 + (x : Int) - 48 = x by omega]; exact IntWalk.u8_in _ (by omega)
      have m3 : IntKind.u32.wrap (x : Int) = (x : Int) := IntWalk.u32_in _ (by omega)
      have m4 : IntKind.u32.wrap ((mv d : Int) * 10 + (x : Int)) = (mv d : Int) * 10 + (x : Int) := IntWalk.u32_in _ (by omega)
      have hmv : mv (d ++ [x]) = mv d * 10 + x := by rw [mv_app]; simp [mv]
      refine wB1 (wa t7 (wa t3 (wa t8 (wa t9 (wa hlt (wa hltn (wa hx (wa w1 (wa m1 (wa m2 (wa m3 m4))))))))))) ?_
      refine ⟨r.length, by simp, d ++ [x], r, by simp [hdr], rfl, ?_⟩
      simp [upd_ap, t7, t8, hmv]
  · simp [upd_ap, argsT, mv]
end Go.Proofs.Bv
namespace Go.Proofs.Bv
open Go
theorem dstr_nil {l : List Nat} : ((dstr l).toList == (ByteArray.mk #[]).toList) = decide (l = []) := by
  rw [ByteArray.toList_eq, ByteArray.toList_eq]
  cases l with
  | nil => rfl
  | cons d l => simp [dstr]
theorem bnds_lo {len k : Nat} (hk : k ≤ len) : bnds len (some (.sc (.int .i64 (k : Int)))) none = some (k, len) := by
  simp [bnds, asNat, hk]
theorem ok120 : codeOk 39 (Tryz.f120.body.getD .skip) = true := by kernel_rfl
set_option maxHeartbeats 8000000 in
set_option maxRecDepth 100000 in
theorem pc120 (G : Nat → Option (List AV)) (l : List Nat) (h0 : l ≠ []) (hn : l.length ≤ 2400) (h : ∀ d ∈ l, d < 10) : Pc (Cf G) 120 [.sc (.string (dstr l))] (.tup [lsl (mv l), .sc (.int .i64 0)]) := by
  have hlp : 0 < l.length := List.length_pos_iff.2 h0
  have q1 : ¬ (l.length : Int) = 0 := by omega
  have q2 : ¬ 2400 < (l.length : Int) := by omega
  have hsz := dstr_size l
  have hcells := dstr_cells h
  have hcf := pc178 G l (by omega) h
  refine Pc_of (Gf_enter (C := Cf G) Tryz.func120 rfl ok120 (Nat.le_of_ble_eq_true rfl) ?_)
  simp only [Tryz.f120, Option.getD_some]
  refine wC1 (wa hsz (wa hcells (wa q1 q2))) (wa hcf trivial) ?_
  refine Gc_loop_inv (fun m st => ∃ d r, l = d ++ r ∧ m = r.length ∧ (d = [] ∨ 9 ∣ r.length) ∧ (st.T 4 = .nilS ∧ d = [] ∨ st.T 4 = lsl (mv d)) ∧ st.T 0 = .sc (.string (dstr r))) ?_ l.length _ ⟨[], l, rfl, rfl, .inl rfl, .inl ⟨?_, rfl⟩, ?_⟩
  · rintro m ⟨T, hh, n⟩ ⟨d, r, hdr, rfl, hd9, t4, t0⟩
    simp only at t4 t0
    have hdl : l.length = d.length + r.length := by rw [hdr, List.length_append]
    have hr : ∀ x ∈ r, x < 10 := fun x hx => h x (by rw [hdr]; simp [hx])
    have hd : ∀ x ∈ d, x < 10 := fun x hx => h x (by rw [hdr]; simp [hx])
    by_cases hr0 : r = []
    · subst hr0
      have e : d = l := by simp [hdr]
      subst e
      rcases t4 with ⟨_, t4⟩ | t4
      · exact absurd t4 h0
      · unfold lsl at t4
        refine wB1 (wa t4 (wa t0 @dstr_nil)) ?_
        simp only [one1, frz_t, mapF, frz_l, frz_s, Option.map_some, lsl]
    · have hrp : 0 < r.length := List.length_pos_iff.2 hr0
      obtain ⟨k, hk⟩ : ∃ k, (r.length - 1) % 9 + 1 = k := ⟨_, rfl⟩
      have hk9 : k ≤ 9 := by omega
      have hkr : k ≤ r.length := by omega
      have hk1 : 1 ≤ k := by omega
      have w1 : IntKind.i64.wrap ((r.length : Int) - 1) = ((r.length - 1 : Nat) : Int) := by rw [i64 (by omega) (by omega)]; omega
      have w2 : ((r.length - 1 : Nat) : Int).tmod 9 = (((r.length - 1) % 9 : Nat) : Int) := by rw [Int.tmod_eq_emod_of_nonneg (by omega)]; omega
      have w3 : IntKind.i64.wrap ((((r.length - 1) % 9 : Nat) : Int) + 1) = (k : Int) := by rw [i64 (by omega) (by omega)]; omega
      have s1 := dstr_size r
      have b1 := bnds_hi (len := r.length) (k := k) hkr
      have b2 := bnds_lo (len := r.length) (k := k) hkr
      have x1 : (dstr r).extract 0 k = dstr (r.take k) := by rw [dstr_cut]; simp
      have x2 : (dstr r).extract k r.length = dstr (r.drop k) := by rw [dstr_cut]; simp
      have c1l : (r.take k).length = k := by rw [List.length_take]; omega
      have hpc := pc182 G (r.take k) (by omega) (fun x hx => hr x (List.mem_of_mem_take hx))
      have hc1 := mv_lt (r.take k) (fun x hx => hr x (List.mem_of_mem_take hx))
      rw [c1l] at hc1
      have hp9 : 10 ^ k ≤ 10 ^ 9 := Nat.pow_le_pow_right (by omega) hk9
      have hmd := mv_lt d hd
      have hm := pcMul G (mv d) 1000000000 d.length 10 hmd (by decide) (by omega)
      have ht := pcTrim1 G (mv (r.take k)) (by omega)
      have hmd9 : mv d * 1000000000 < 10 ^ (d.length + 9) := by
        rw [Nat.pow_add]
        exact Nat.mul_lt_mul_of_lt_of_le hmd (by decide) (by decide)
      have ha := pcAdd G (mv d * 1000000000) (mv (r.take k)) (d.length + 9) 9 hmd9 (by omega) (by omega)
      have hval : mv (d ++ r.take k) = mv d * 1000000000 + mv (r.take k) := by
        rw [mv_app, c1l]
        rcases hd9 with rfl | hd9
        · simp [mv]
        · have : k = 9 := by omega
          rw [this]
      rw [← hval] at ha
      have e9 : lsl 1000000000 = .psl [.sc (.int .u32 1000000000)] 1 := by unfold lsl; rw [lim_one (by omega) (by omega)]; rfl
      rw [e9] at hm
      have m0 : (mv ([] : List Nat)) = 0 := rfl
      have e0 : lsl 0 = .psl [] 0 := by unfold lsl; rw [lim_zero]; rfl
      have hfin : 9 ∣ (r.drop k).length := by rw [List.length_drop]; omega
      unfold lsl at hm ht ha
      rcases t4 with ⟨t4, rfl⟩ | t4
      · simp only [m0, Nat.zero_mul, lim_zero, List.length_nil] at hm ha
        refine gF1 (wa t4 (wa t0 (wa @dstr_nil (wa hr0 (wa s1 (wa w1 (wa w2 (wa w3 (wa b1 (wa b2 (wa x1 x2))))))))))) (wa hpc (wa ha (wa hm (wa ht trivial)))) ?_
        refine ⟨(r.drop k).length, by rw [List.length_drop]; omega, _, r.drop k, by rw [hdr, List.append_assoc, List.take_append_drop], rfl, .inr hfin, .inr ?_, ?_⟩
        · simp [upd_ap, tAt, lsl]
        · simp [upd_ap, tAt]
      · unfold lsl at t4
        refine gF1 (wa t4 (wa t0 (wa @dstr_nil (wa hr0 (wa s1 (wa w1 (wa w2 (wa w3 (wa b1 (wa b2 (wa x1 x2))))))))))) (wa hpc (wa ha (wa hm (wa ht trivial)))) ?_
        refine ⟨(r.drop k).length, by rw [List.length_drop]; omega, _, r.drop k, by rw [hdr, List.append_assoc, List.take_append_drop], rfl, .inr hfin, .inr ?_, ?_⟩
        · simp [upd_ap, tAt, lsl]
        · simp [upd_ap, tAt]
  · simp [upd_ap]
  · simp [upd_ap, argsT]
end Go.Proofs.Bv
