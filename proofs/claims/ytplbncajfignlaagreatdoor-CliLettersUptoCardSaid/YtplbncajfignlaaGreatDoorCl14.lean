/-
  A part of the proof of CliLettersUptoCardSaid: CkRunes, CkR111, CkChk, CkLetters, CkSpec, CkCli1, CkCli2, CkCli3, CkCli4, CkCli5, CkCli6, CkCli7.
  Conditions: those that each part names.
-/
import Derived.Test.YtplbncajfignlaaGreatDoorCl13
import Derived.Lib.TrimU
import Derived.Lib.QuoteLoop
import Derived.Lib.RuneCountTail
set_option linter.unusedSimpArgs false
set_option linter.unusedVariables false
namespace Go.Proofs.Bv
open Go
def runeAt (s : ByteArray) (p : Nat) : Int :=
  if ((Lib.decodeGo (s.extract p s.size)).1 : Int) = 65533 ∧ ((Lib.decodeGo (s.extract p s.size)).2 : Int) = 1 then -1 else (Lib.decodeGo (s.extract p s.size)).1
def wideAt (s : ByteArray) (p : Nat) : Nat := (Lib.decodeGo (s.extract p s.size)).2
theorem wide_rng (s : ByteArray) (p : Nat) (hp : p < s.size) : 1 ≤ wideAt s p ∧ p + wideAt s p ≤ s.size := by
  have hs : (s.extract p s.size).size = s.size - p := by simp
  have h0 : ¬ (s.extract p s.size).size = 0 := by omega
  have h1 := Lib.width_pos (s.extract p s.size) 0
  have h2 := Lib.width_le (s.extract p s.size) (by omega)
  unfold wideAt Lib.decodeGo
  rw [if_neg h0]
  omega
theorem st_wk {C : Cfg} {nt n : Nat} {h : Heap} {T : Nat → AV} {ops : Array Oper} {o : Oper} {l : List Oper} {Q : St → Prop} {f : Operand} {ars : Array Operand} {ts : Array TypeId} {fv : AV} {args : List AV}
    (hop : o.op = .call { callee := .value f, args := ars, argTypes := ts }) (hg : goes ops T o = some true) (hf : val C T f = fv) (ha : ars.toList.map (val C T) = args)
    (hw : Wk C fv args h n (Gn C nt n T o.dst ops l Q)) : Gw C nt ops (o :: l) ⟨T, h, n⟩ Q := by
  refine ⟨?_⟩
  rw [Wo_cons, hg, Wg_true, hop, Ws_call, hf, ha]
  obtain ⟨k, v, h', n', e1, e2⟩ := hw
  refine ⟨k, v, h', n', e1, e2.le, ?_⟩
  have := e2.go
  simp only [Gw_eq] at this
  exact this
theorem ok121 : codeOk 31 (Tryz.f121.body.getD .skip) = true := by kernel_rfl
set_option maxHeartbeats 2000000 in
theorem gf121 (G : Nat → Option (List AV)) (s : ByteArray) (hn : s.size ≤ 140737488355328) (b : Nat) (I : Nat → Heap → Nat → Prop) (Q : AV → Heap → Nat → Prop)
    (hround : ∀ p h n (K : AV → Heap → Nat → Prop), I p h n → p < s.size → (∀ h' n', n ≤ n' → I (p + wideAt s p) h' n' → K (.sc (.bool true)) h' n') → (∀ h' n', n ≤ n' → Q (.tup []) h' n' → K (.sc (.bool false)) h' n') →
      Wk (Cf G) (.fn (.yield b) []) [.sc (.int .i64 p), .sc (.int .i32 (runeAt s p))] h n K)
    (hend : ∀ h n, I s.size h n → Q (.tup []) h n) {h : Heap} {n : Nat} (hI : I 0 h n) : Gf (Cf G) 121 [.fn (.yield b) [], .pptr [.sc (.string s)] 0] h n Q := by
  refine Gf_enter (C := Cf G) Tryz.func121 rfl ok121 (Nat.le_of_ble_eq_true rfl) ?_
  simp only [Tryz.f121, Option.getD_some]
  refine wB1 trivial ?_
  refine Gc_loop_inv (fun m st => ∃ p : Nat, p ≤ s.size ∧ m = s.size - p ∧ st.T 0 = .fn (.yield b) [] ∧ st.T 1 = .pptr [.sc (.string s)] 0 ∧ st.T 3 = .sc (.int .i64 p) ∧ I p st.h st.n) ?_ s.size _ ⟨0, by omega, by omega, ?_⟩
  · rintro m ⟨T, h, n⟩ ⟨p, hp, rfl, h0, h1, h3, hI⟩
    simp only at h0 h1 h3 hI
    by_cases hlt : p < s.size
    · have hlt' : (p : Int) < (s.size : Int) := by omega
      have hbd : bnds s.size (some (.sc (.int .i64 (p : Int)))) none = some (p, s.size) := by simp [bnds, asNat]; omega
      obtain ⟨c, hc⟩ : ∃ c, (Lib.decodeGo (s.extract p s.size)).1 = c := ⟨_, rfl⟩
      obtain ⟨w, hwd⟩ : ∃ w, (Lib.decodeGo (s.extract p s.size)).2 = w := ⟨_, rfl⟩
      have hwr := wide_rng s p hlt
      have hrd := hround p h n
      unfold runeAt at hrd
      unfold wideAt at hwr hrd
      rw [hc, hwd] at hrd
      rw [hwd] at hwr
      have hadd : IntKind.i64.wrap ((p : Int) + (w : Int)) = ((p + w : Nat) : Int) := by rw [i64 (by omega) (by omega)]; omega
      have hadd1 : (w : Int) = 1 → IntKind.i64.wrap ((p : Int) + 1) = (p : Int) + (w : Int) := fun h => by rw [i64 (by omega) (by omega)]; omega
      by_cases h65 : (c : Int) = 65533
      · by_cases hw1 : (w : Int) = 1
        · rw [if_pos ⟨h65, hw1⟩] at hrd
          refine wC1 (wa h0 (wa h1 (wa h3 (wa hlt' (wa hbd (wa hc (wa hwd (wa h65 hw1)))))))) trivial ?_
          refine st_wk rfl rfl (by simp only [vop, val, argsT, upd_ap, Nat.reduceEqDiff, if_true, if_false, ite_true, ite_false, reduceIte, loadAt, loadA, AV.cells, AV.one, List.all_cons, List.all_nil, ofV, ofCell, plain, List.getElem?_cons_zero, List.getElem?_cons_succ, List.getElem?_toArray, Option.getD_some, Bool.not_true, Bool.not_false, Bool.false_eq_true, Bool.and_true, Bool.true_and, Bool.and_self, Nat.zero_add, Option.map_some, Option.bind_some, List.map_cons, List.map_nil, ev_add, ev_sub, ev_mul, ev_lss, ev_leq, ev_gtr, ev_geq, ev_eql, ev_neq, ev_seql, ev_sneq, ev_sleq, ev_slss, ev_not, ev_min, ev_max, asNat_nat, asNat_zero, asNat_one, asNat_two, asNat_three, vb_len, List.length_cons, List.length_nil, Nat.reduceAdd, Nat.reduceLeDiff, Nat.reduceMul, Int.reduceEq, Int.reduceLT, Int.reduceLE, Int.reduceNeg, Int.reduceAdd, Int.reduceSub, Nat.reduceLT, decide_true, decide_false, not_true_eq_false, not_false_eq_true, and_self, and_true, true_and, storeA, List.take_zero, List.drop_succ_cons, List.drop_zero, List.nil_append, List.append_nil, List.take_succ_cons, List.cons_append, cut_cons, cut_zero, cut_skip, tAt, hHide, hAt, upsAt, List.contains_cons, List.contains_nil, Nat.reduceBEq, Bool.or_true, Bool.true_or, Bool.or_false, Bool.false_or, Bool.or_self, Bool.and_true, Bool.true_and, Bool.and_false, Bool.false_and, beq_self_eq_true (α := Nat), Option.some_beq_some, Option.none_beq_some, Option.some_beq_none, Bool.false_eq_true, List.all_nil, touch, touchB, Nat.sub_self, List.range'_zero, Nat.add_sub_cancel_left, List.range'_one, h0]) (by simp only [vop, val, argsT, upd_ap, Nat.reduceEqDiff, if_true, if_false, ite_true, ite_false, reduceIte, loadAt, loadA, AV.cells, AV.one, List.all_cons, List.all_nil, ofV, ofCell, plain, List.getElem?_cons_zero, List.getElem?_cons_succ, List.getElem?_toArray, Option.getD_some, Bool.not_true, Bool.not_false, Bool.false_eq_true, Bool.and_true, Bool.true_and, Bool.and_self, Nat.zero_add, Option.map_some, Option.bind_some, List.map_cons, List.map_nil, ev_add, ev_sub, ev_mul, ev_lss, ev_leq, ev_gtr, ev_geq, ev_eql, ev_neq, ev_seql, ev_sneq, ev_sleq, ev_slss, ev_not, ev_min, ev_max, asNat_nat, asNat_zero, asNat_one, asNat_two, asNat_three, vb_len, List.length_cons, List.length_nil, Nat.reduceAdd, Nat.reduceLeDiff, Nat.reduceMul, Int.reduceEq, Int.reduceLT, Int.reduceLE, Int.reduceNeg, Int.reduceAdd, Int.reduceSub, Nat.reduceLT, decide_true, decide_false, not_true_eq_false, not_false_eq_true, and_self, and_true, true_and, storeA, List.take_zero, List.drop_succ_cons, List.drop_zero, List.nil_append, List.append_nil, List.take_succ_cons, List.cons_append, cut_cons, cut_zero, cut_skip, tAt, hHide, hAt, upsAt, List.contains_cons, List.contains_nil, Nat.reduceBEq, Bool.or_true, Bool.true_or, Bool.or_false, Bool.false_or, Bool.or_self, Bool.and_true, Bool.true_and, Bool.and_false, Bool.false_and, beq_self_eq_true (α := Nat), Option.some_beq_some, Option.none_beq_some, Option.some_beq_none, Bool.false_eq_true, List.all_nil, touch, touchB, Nat.sub_self, List.range'_zero, Nat.add_sub_cancel_left, List.range'_one, h0, h3, h65]) (hrd _ hI hlt (fun h' n' hn' hI' => st_gn hn' rfl ?_) (fun h' n' hn' hq => st_gn hn' rfl ?_))
          · refine wB1 (wa h0 (wa h1 (wa h3 hadd))) ?_
            refine ⟨s.size - (p + w), by omega, p + w, by omega, rfl, ?_, ?_, ?_, hI'⟩
            all_goals first | (simp [upd_ap, h0, h1]; done) | (simp [upd_ap, h0, h1]; exact hadd1 hw1)
          · refine wB1 (wa h0 (wa h1 h3)) ?_
            exact hq
        · rw [if_neg (by omega)] at hrd
          refine wC1 (wa h0 (wa h1 (wa h3 (wa hlt' (wa hbd (wa hc (wa hwd (wa h65 hw1)))))))) trivial ?_
          refine st_wk rfl rfl (by simp only [vop, val, argsT, upd_ap, Nat.reduceEqDiff, if_true, if_false, ite_true, ite_false, reduceIte, loadAt, loadA, AV.cells, AV.one, List.all_cons, List.all_nil, ofV, ofCell, plain, List.getElem?_cons_zero, List.getElem?_cons_succ, List.getElem?_toArray, Option.getD_some, Bool.not_true, Bool.not_false, Bool.false_eq_true, Bool.and_true, Bool.true_and, Bool.and_self, Nat.zero_add, Option.map_some, Option.bind_some, List.map_cons, List.map_nil, ev_add, ev_sub, ev_mul, ev_lss, ev_leq, ev_gtr, ev_geq, ev_eql, ev_neq, ev_seql, ev_sneq, ev_sleq, ev_slss, ev_not, ev_min, ev_max, asNat_nat, asNat_zero, asNat_one, asNat_two, asNat_three, vb_len, List.length_cons, List.length_nil, Nat.reduceAdd, Nat.reduceLeDiff, Nat.reduceMul, Int.reduceEq, Int.reduceLT, Int.reduceLE, Int.reduceNeg, Int.reduceAdd, Int.reduceSub, Nat.reduceLT, decide_true, decide_false, not_true_eq_false, not_false_eq_true, and_self, and_true, true_and, storeA, List.take_zero, List.drop_succ_cons, List.drop_zero, List.nil_append, List.append_nil, List.take_succ_cons, List.cons_append, cut_cons, cut_zero, cut_skip, tAt, hHide, hAt, upsAt, List.contains_cons, List.contains_nil, Nat.reduceBEq, Bool.or_true, Bool.true_or, Bool.or_false, Bool.false_or, Bool.or_self, Bool.and_true, Bool.true_and, Bool.and_false, Bool.false_and, beq_self_eq_true (α := Nat), Option.some_beq_some, Option.none_beq_some, Option.some_beq_none, Bool.false_eq_true, List.all_nil, touch, touchB, Nat.sub_self, List.range'_zero, Nat.add_sub_cancel_left, List.range'_one, h0]) (by simp only [vop, val, argsT, upd_ap, Nat.reduceEqDiff, if_true, if_false, ite_true, ite_false, reduceIte, loadAt, loadA, AV.cells, AV.one, List.all_cons, List.all_nil, ofV, ofCell, plain, List.getElem?_cons_zero, List.getElem?_cons_succ, List.getElem?_toArray, Option.getD_some, Bool.not_true, Bool.not_false, Bool.false_eq_true, Bool.and_true, Bool.true_and, Bool.and_self, Nat.zero_add, Option.map_some, Option.bind_some, List.map_cons, List.map_nil, ev_add, ev_sub, ev_mul, ev_lss, ev_leq, ev_gtr, ev_geq, ev_eql, ev_neq, ev_seql, ev_sneq, ev_sleq, ev_slss, ev_not, ev_min, ev_max, asNat_nat, asNat_zero, asNat_one, asNat_two, asNat_three, vb_len, List.length_cons, List.length_nil, Nat.reduceAdd, Nat.reduceLeDiff, Nat.reduceMul, Int.reduceEq, Int.reduceLT, Int.reduceLE, Int.reduceNeg, Int.reduceAdd, Int.reduceSub, Nat.reduceLT, decide_true, decide_false, not_true_eq_false, not_false_eq_true, and_self, and_true, true_and, storeA, List.take_zero, List.drop_succ_cons, List.drop_zero, List.nil_append, List.append_nil, List.take_succ_cons, List.cons_append, cut_cons, cut_zero, cut_skip, tAt, hHide, hAt, upsAt, List.contains_cons, List.contains_nil, Nat.reduceBEq, Bool.or_true, Bool.true_or, Bool.or_false, Bool.false_or, Bool.or_self, Bool.and_true, Bool.true_and, Bool.and_false, Bool.false_and, beq_self_eq_true (α := Nat), Option.some_beq_some, Option.none_beq_some, Option.some_beq_none, Bool.false_eq_true, List.all_nil, touch, touchB, Nat.sub_self, List.range'_zero, Nat.add_sub_cancel_left, List.range'_one, h0, h3, h65]) (hrd _ hI hlt (fun h' n' hn' hI' => st_gn hn' rfl ?_) (fun h' n' hn' hq => st_gn hn' rfl ?_))
          · refine wB1 (wa h0 (wa h1 (wa h3 hadd))) ?_
            refine ⟨s.size - (p + w), by omega, p + w, by omega, rfl, ?_, ?_, ?_, hI'⟩
            all_goals first | (simp [upd_ap, h0, h1]; done) | (simp [upd_ap, h0, h1]; exact hadd1 hw1)
          · refine wB1 (wa h0 (wa h1 h3)) ?_
            exact hq
      · rw [if_neg (by omega)] at hrd
        refine wC1 (wa h0 (wa h1 (wa h3 (wa hlt' (wa hbd (wa hc (wa hwd h65))))))) trivial ?_
        refine st_wk rfl rfl (by simp only [vop, val, argsT, upd_ap, Nat.reduceEqDiff, if_true, if_false, ite_true, ite_false, reduceIte, loadAt, loadA, AV.cells, AV.one, List.all_cons, List.all_nil, ofV, ofCell, plain, List.getElem?_cons_zero, List.getElem?_cons_succ, List.getElem?_toArray, Option.getD_some, Bool.not_true, Bool.not_false, Bool.false_eq_true, Bool.and_true, Bool.true_and, Bool.and_self, Nat.zero_add, Option.map_some, Option.bind_some, List.map_cons, List.map_nil, ev_add, ev_sub, ev_mul, ev_lss, ev_leq, ev_gtr, ev_geq, ev_eql, ev_neq, ev_seql, ev_sneq, ev_sleq, ev_slss, ev_not, ev_min, ev_max, asNat_nat, asNat_zero, asNat_one, asNat_two, asNat_three, vb_len, List.length_cons, List.length_nil, Nat.reduceAdd, Nat.reduceLeDiff, Nat.reduceMul, Int.reduceEq, Int.reduceLT, Int.reduceLE, Int.reduceNeg, Int.reduceAdd, Int.reduceSub, Nat.reduceLT, decide_true, decide_false, not_true_eq_false, not_false_eq_true, and_self, and_true, true_and, storeA, List.take_zero, List.drop_succ_cons, List.drop_zero, List.nil_append, List.append_nil, List.take_succ_cons, List.cons_append, cut_cons, cut_zero, cut_skip, tAt, hHide, hAt, upsAt, List.contains_cons, List.contains_nil, Nat.reduceBEq, Bool.or_true, Bool.true_or, Bool.or_false, Bool.false_or, Bool.or_self, Bool.and_true, Bool.true_and, Bool.and_false, Bool.false_and, beq_self_eq_true (α := Nat), Option.some_beq_some, Option.none_beq_some, Option.some_beq_none, Bool.false_eq_true, List.all_nil, touch, touchB, Nat.sub_self, List.range'_zero, Nat.add_sub_cancel_left, List.range'_one, h0]) (by simp only [vop, val, argsT, upd_ap, Nat.reduceEqDiff, if_true, if_false, ite_true, ite_false, reduceIte, loadAt, loadA, AV.cells, AV.one, List.all_cons, List.all_nil, ofV, ofCell, plain, List.getElem?_cons_zero, List.getElem?_cons_succ, List.getElem?_toArray, Option.getD_some, Bool.not_true, Bool.not_false, Bool.false_eq_true, Bool.and_true, Bool.true_and, Bool.and_self, Nat.zero_add, Option.map_some, Option.bind_some, List.map_cons, List.map_nil, ev_add, ev_sub, ev_mul, ev_lss, ev_leq, ev_gtr, ev_geq, ev_eql, ev_neq, ev_seql, ev_sneq, ev_sleq, ev_slss, ev_not, ev_min, ev_max, asNat_nat, asNat_zero, asNat_one, asNat_two, asNat_three, vb_len, List.length_cons, List.length_nil, Nat.reduceAdd, Nat.reduceLeDiff, Nat.reduceMul, Int.reduceEq, Int.reduceLT, Int.reduceLE, Int.reduceNeg, Int.reduceAdd, Int.reduceSub, Nat.reduceLT, decide_true, decide_false, not_true_eq_false, not_false_eq_true, and_self, and_true, true_and, storeA, List.take_zero, List.drop_succ_cons, List.drop_zero, List.nil_append, List.append_nil, List.take_succ_cons, List.cons_append, cut_cons, cut_zero, cut_skip, tAt, hHide, hAt, upsAt, List.contains_cons, List.contains_nil, Nat.reduceBEq, Bool.or_true, Bool.true_or, Bool.or_false, Bool.false_or, Bool.or_self, Bool.and_true, Bool.true_and, Bool.and_false, Bool.false_and, beq_self_eq_true (α := Nat), Option.some_beq_some, Option.none_beq_some, Option.some_beq_none, Bool.false_eq_true, List.all_nil, touch, touchB, Nat.sub_self, List.range'_zero, Nat.add_sub_cancel_left, List.range'_one, h0, h3, h65]) (hrd _ hI hlt (fun h' n' hn' hI' => st_gn hn' rfl ?_) (fun h' n' hn' hq => st_gn hn' rfl ?_))
        · refine wB1 (wa h0 (wa h1 (wa h3 hadd))) ?_
          refine ⟨s.size - (p + w), by omega, p + w, by omega, rfl, ?_, ?_, ?_, hI'⟩
          all_goals simp [upd_ap, h0, h1]
        · refine wB1 (wa h0 (wa h1 h3)) ?_
          exact hq
    · have hge : ¬ (p : Int) < (s.size : Int) := by omega
      obtain rfl : p = s.size := by omega
      refine wB1 (wa h0 (wa h1 (wa h3 hge))) ?_
      exact hend _ _ hI
  · simp [upd_ap, argsT, hI]
end Go.Proofs.Bv
namespace Go.Proofs.Bv
open Go
theorem ok86 : codeOk 4 (Tryz.f86.body.getD .skip) = true := by kernel_rfl
theorem pc86 (G : Nat → Option (List AV)) (s : ByteArray) : Pc (Cf G) 86 [.sc (.string s)] (.fn (.func 121) [.pptr [.sc (.string s)] 0]) := by
  refine Pc_of (Gf_enter (C := Cf G) Tryz.func86 rfl ok86 (Nat.le_of_ble_eq_true rfl) ?_)
  simp only [Tryz.f86, Option.getD_some]
  refine wB1 @Array.size_empty.{0} ?_
  all_goals rfl
end Go.Proofs.Bv
namespace Go.Proofs.Bv
open Go
def chkFrom (s : ByteArray) (p : Nat) : Int × Int :=
  if h : p < s.size then (if runeAt s p < 0 then ((p : Int), 61) else chkFrom s (p + wideAt s p)) else ((s.size : Int), 0)
termination_by s.size - p
decreasing_by
  have := wide_rng s p h
  omega
theorem gf121L (G : Nat → Option (List AV)) (s : ByteArray) (hn : s.size ≤ 140737488355328) (b : Nat) (L : LoopA) (J : Nat → Heap → Nat → Prop) (Q : AV → Heap → Nat → Prop)
    (hround : ∀ p h n (K : AV → Heap → Nat → Prop), J p h n → h b = some (.loop L) → p < s.size → (∀ h' n', n ≤ n' → J (p + wideAt s p) h' n' → h' b = some (.loop L) → K (.sc (.bool true)) h' n') → (∀ h' n', n ≤ n' → Q (.tup []) h' n' → K (.sc (.bool false)) h' n') →
      Wk (Cf G) (.fn (.yield b) []) [.sc (.int .i64 p), .sc (.int .i32 (runeAt s p))] h n K)
    (hend : ∀ h n, J s.size h n → h b = some (.loop L) → Q (.tup []) h n) {h : Heap} {n : Nat} (hJ : J 0 h n) (hL : h b = some (.loop L)) : Gf (Cf G) 121 [.fn (.yield b) [], .pptr [.sc (.string s)] 0] h n Q :=
  gf121 G s hn b (fun p h n => J p h n ∧ h b = some (.loop L)) Q (fun p h n K hI hlt hT hF => hround p h n K hI.1 hI.2 hlt (fun h' n' hn hj hl => hT h' n' hn ⟨hj, hl⟩) hF) (fun h n hI => hend h n hI.1 hI.2) ⟨hJ, hL⟩
theorem ok45 : codeOk 15 (Tryz.f45.body.getD .skip) = true := by kernel_rfl
set_option maxHeartbeats 2000000 in
set_option maxRecDepth 100000 in
theorem pc45 (G : Nat → Option (List AV)) (s : ByteArray) (hn : s.size ≤ 140737488355328) : Pc (Cf G) 45 [.sc (.string s)] (.tup [.sc (.int .i64 (chkFrom s 0).1), .sc (.int .i64 (chkFrom s 0).2)]) := by
  have hc := pc86 G s
  refine Pc_of (Gf_enter (C := Cf G) Tryz.func45 rfl ok45 (Nat.le_of_ble_eq_true rfl) ?_)
  simp only [Tryz.f45, Option.getD_some]
  refine wC1 trivial (wa hc trivial) ?_
  refine st_range (by simp only [vop, val, argsT, upd_ap, Nat.reduceEqDiff, if_true, if_false, ite_true, ite_false, reduceIte, loadAt, loadA, AV.cells, AV.one, List.all_cons, List.all_nil, ofV, ofCell, plain, List.getElem?_cons_zero, List.getElem?_cons_succ, List.getElem?_toArray, Option.getD_some, Bool.not_true, Bool.not_false, Bool.false_eq_true, Bool.and_true, Bool.true_and, Bool.and_self, Nat.zero_add, Option.map_some, Option.bind_some, List.map_cons, List.map_nil, ev_add, ev_sub, ev_mul, ev_lss, ev_leq, ev_gtr, ev_geq, ev_eql, ev_neq, ev_seql, ev_sneq, ev_sleq, ev_slss, ev_not, ev_min, ev_max, asNat_nat, asNat_zero, asNat_one, asNat_two, asNat_three, vb_len, List.length_cons, List.length_nil, Nat.reduceAdd, Nat.reduceLeDiff, Nat.reduceMul, Int.reduceEq, Int.reduceLT, Int.reduceLE, Int.reduceNeg, Int.reduceAdd, Int.reduceSub, Nat.reduceLT, decide_true, decide_false, not_true_eq_false, not_false_eq_true, and_self, and_true, true_and, storeA, List.take_zero, List.drop_succ_cons, List.drop_zero, List.nil_append, List.append_nil, List.take_succ_cons, List.cons_append, cut_cons, cut_zero, cut_skip, tAt, hHide, hAt, upsAt, List.contains_cons, List.contains_nil, Nat.reduceBEq, Bool.or_true, Bool.true_or, Bool.or_false, Bool.false_or, Bool.or_self, Bool.and_true, Bool.true_and, Bool.and_false, Bool.false_and, beq_self_eq_true (α := Nat), Option.some_beq_some, Option.none_beq_some, Option.some_beq_none, Bool.false_eq_true, List.all_nil, touch, touchB, Nat.sub_self, List.range'_zero, Nat.add_sub_cancel_left, List.range'_one]; with_reducible rfl) ?_
  refine gf121L G s hn _ _ (fun p h n => 3 ≤ n ∧ chkFrom s p = chkFrom s 0 ∧ h 0 = some (.cells [.sc (.int .i64 0)] 0 false) ∧ h 1 = some (.cells [.sc (.int .i64 0)] 0 false)) _ ?_ ?_ ⟨Nat.le_refl _, rfl, rfl, rfl⟩ rfl
  · rintro p h n K ⟨h3, hch, hh0, hh1⟩ hL hlt hT hF
    have hst : chkFrom s p = if runeAt s p < 0 then ((p : Int), 61) else chkFrom s (p + wideAt s p) := by rw [chkFrom, dif_pos hlt]
    refine Wk_yield hL (by kernel_rfl) rfl ?_
    refine wB1 hL ?_
    refine roundMid_of hL rfl ?_
    (focus refine wB2 (wa hL (wa hh0 hh1)) ?_ ?_; intro hb; rotate_left; intro hb; rotate_left)
    · refine roundEnd_ret rfl ?_
      refine hF _ _ (Nat.le_refl _) (rangeEnd_ret h3 rfl rfl ?_)
      refine wB1 (wa hL (wa hh0 hh1)) ?_
      rw [← hch, hst, if_pos hb]
      rfl
    · refine roundEnd_norm rfl ?_
      refine hT _ _ (Nat.le_refl _) ⟨h3, by rw [← hch, hst, if_neg hb], hh0, hh1⟩ rfl
  · rintro h n ⟨h3, hch, hh0, hh1⟩ hL
    have hst : chkFrom s s.size = ((s.size : Int), 0) := by rw [chkFrom, dif_neg (by omega)]
    refine rangeEnd_norm h3 hL rfl rfl ?_
    refine wB1 (wa hL (wa hh0 hh1)) ?_
    rw [← hch, hst]
    rfl
end Go.Proofs.Bv
namespace Go.Proofs.Bv
open Go
def letters (s : ByteArray) : Int := if (chkFrom s 0).2 = 0 then (if 16384 < (s.size : Int) then 5 else 0) else (chkFrom s 0).2
theorem ok252 : codeOk 16 (Tryz.f252.body.getD .skip) = true := by kernel_rfl
set_option maxHeartbeats 2000000 in
set_option maxRecDepth 100000 in
theorem pc252 (G : Nat → Option (List AV)) (s : ByteArray) (hn : s.size ≤ 140737488355328) : Pc (Cf G) 252 [.sc (.string s)] (.sc (.int .i64 (letters s))) := by
  have hc := pc45 G s hn
  unfold letters
  generalize chkFrom s 0 = e at hc
  obtain ⟨a, e⟩ := e
  simp only at hc
  refine Pc_of (Gf_enter (C := Cf G) Tryz.func252 rfl ok252 (Nat.le_of_ble_eq_true rfl) ?_)
  simp only [Tryz.f252, Option.getD_some]
  by_cases he : e = 0
  · by_cases hl : 16384 < (s.size : Int)
    · refine wC1 (wa he hl) (wa hc trivial) ?_
      simp only [one1, frz_sc, Option.map_some, he, hl, if_true]
    · refine wC1 (wa he hl) (wa hc trivial) ?_
      simp only [one1, frz_sc, Option.map_some, he, hl, if_true, if_false]
  · refine wC1 he (wa hc trivial) ?_
    simp only [one1, frz_sc, Option.map_some, he, if_false]
end Go.Proofs.Bv
namespace Go.Proofs.Bv
open Go
structure PS where
  nl : Bool
  sl : Bool
  rw : Bool
  jn : Bool
  asc : Bool
  ind : Int
  nm : AV
  pos : Nat
  fl : ByteArray
  fd : Bool
  pl : Bool
def bv (b : Bool) : AV := .sc (.bool b)
def PS.opts (s : PS) : List AV := [.sc (.bool s.nl), .sc (.bool s.sl), .sc (.bool s.rw), .sc (.bool s.jn), .sc (.bool s.asc), .sc (.int .i64 s.ind), s.nm]
def PS.cells (s : PS) (L : AV) : List AV := [.sc (.bool s.nl), .sc (.bool s.sl), .sc (.bool s.rw), .sc (.bool s.jn), .sc (.bool s.asc), .sc (.int .i64 s.ind), s.nm, L, .sc (.int .i64 s.pos), .sc (.string s.fl), .sc (.bool s.fd), .sc (.bool s.pl)]
def letterF (c : Int) (s : PS) : Option PS :=
  if c = 110 then some { s with nl := true }
  else if c = 115 then some { s with sl := true }
  else if c = 114 then some { s with rw := true }
  else if c = 106 then some { s with jn := true }
  else if c = 97 then some { s with asc := true, ind := 0 }
  else if c = 99 then some { s with ind := 0 }
  else none
def lettersF : List UInt8 → PS → Bool × PS
  | [], s => (true, s)
  | c :: l, s =>
    match letterF c.toNat s with
    | some s' => lettersF l s'
    | none => (false, s)
def pHeap (h : Heap) (L : AV) (s : PS) : Heap := upd h 4 (some (.cells (s.cells L) 0 false))
end Go.Proofs.Bv
namespace Go.Proofs.Bv
open Go
theorem ok78 : codeOk 10 (Tryz.f78.body.getD .skip) = true := by kernel_rfl
theorem ok165 : codeOk 46 (Tryz.f165.body.getD .skip) = true := by kernel_rfl
set_option maxRecDepth 100000 in
theorem pf78 (G : Nat → Option (List AV)) (a : AV) (p e : Int) (h : Heap) (n : Nat) : PfP (Cf G) 78 [a, .sc (.int .i64 p), .sc (.int .i64 e)] h n (.ifc 83 (.agg [.sc (.int .i64 p), .sc (.int .i64 e)])) h n := by
  refine pf_enter (C := Cf G) Tryz.func78 rfl ok78 (by rfl) ?_
  simp only [Tryz.f78, Option.getD_some]
  repeat' first | refine t_p rfl ?_ | refine t_sr ?_ | refine t_nil ?_ | refine t_seq ?_ | refine t_region ?_ | refine t_block ?_ | refine t_cond ?_ | refine b_t ?_ | refine b_f ?_ | refine t_skip ?_ | refine t_exit ?_ | refine t_ret ?_ | refine t_onN ?_ | refine t_onE ?_ | refine t_onR ?_ | refine t_onP ?_ | refine t_xN ?_ | refine t_xR ?_ | refine t_xP ?_ | refine t_xS ?_ | refine t_xO (by decide) ?_ | refine t_gt ?_ | refine t_gf rfl ?_ | refine t_wr ?_ | refine t_wn ?_ | refine t_wp ?_ | refine t_on rfl ?_ | refine t_pan rfl ?_ | refine t_mki rfl ?_ | refine t_tas rfl ?_ | refine t_def rfl ?_ | refine t_op rfl ?_ | refine t_gd rfl ?_ | ((first | refine zE1 ?_); (conv => arg 1; try simp only [go_sem, Nat.reduceEqDiff, reduceIte, Nat.reduceAdd, Nat.reduceLeDiff, Nat.reduceMul, Int.reduceEq, Int.reduceLT, Int.reduceLE, Int.reduceNeg, Int.reduceAdd, Int.reduceSub, Nat.reduceLT, Nat.reduceBEq, Nat.reduceSub, Nat.reducePow, Option.map_none, Option.isSome_none, Int.natCast_zero, rep]); first | refine zE3 ?_ | refine zE2 ?_ | refine zE4 ?_ | refine zE5 ?_ | refine zE6 ?_ | refine zE7 ?_ | refine zE8 ?_) | (refine b_s (fun hb => ?_) (fun hb => ?_) <;> ((try simp only [hn1, hn2, hn3, hn4] at hb); first | (exfalso; omega) | skip)) | (refine t_gs (fun hb => ?_) (fun hb => ?_)) <;> ((try simp only [hn1, hn2] at hb); rw [hb]; try simp only [hn3, hn4] at hb)
  exact ⟨rfl, rfl, rfl, rfl⟩
set_option maxRecDepth 100000 in
set_option maxHeartbeats 1000000 in
theorem pf165 (G : Nat → Option (List AV)) (c : Int) (L : AV) (s : PS) (h : Heap) (n : Nat) (hh : h 4 = some (.cells (s.cells L) 0 false)) :
    PfR (Cf G) 165 [.ptr 4 0, .sc (.int .u8 c)] h n (.sc (.bool (letterF c s).isSome)) (match letterF c s with | some s' => pHeap h L s' | none => h) n := by
  obtain ⟨nl, sl, rw, jn, asc, ind, nm, pos, fl, fd, pl⟩ := s
  simp only [PS.cells] at hh
  refine pf_enter (C := Cf G) Tryz.func165 rfl ok165 (by rfl) ?_
  simp only [Tryz.f165, Option.getD_some]
  repeat' first | refine t_p rfl ?_ | refine t_sr ?_ | refine t_nil ?_ | refine t_seq ?_ | refine t_region ?_ | refine t_block ?_ | refine t_cond ?_ | refine b_t ?_ | refine b_f ?_ | refine t_skip ?_ | refine t_exit ?_ | refine t_ret ?_ | refine t_onN ?_ | refine t_onE ?_ | refine t_onR ?_ | refine t_onP ?_ | refine t_xN ?_ | refine t_xR ?_ | refine t_xP ?_ | refine t_xS ?_ | refine t_xO (by decide) ?_ | refine t_gt ?_ | refine t_gf rfl ?_ | refine t_wr ?_ | refine t_wn ?_ | refine t_wp ?_ | refine t_on rfl ?_ | refine t_pan rfl ?_ | refine t_mki rfl ?_ | refine t_tas rfl ?_ | refine t_def rfl ?_ | refine t_op rfl ?_ | refine t_gd rfl ?_ | ((first | refine zE1 ?_); (conv => arg 1; try simp only [go_sem, Nat.reduceEqDiff, reduceIte, Nat.reduceAdd, Nat.reduceLeDiff, Nat.reduceMul, Int.reduceEq, Int.reduceLT, Int.reduceLE, Int.reduceNeg, Int.reduceAdd, Int.reduceSub, Nat.reduceLT, Nat.reduceBEq, Nat.reduceSub, Nat.reducePow, Option.map_none, Option.isSome_none, Int.natCast_zero, rep, hh]); first | refine zE3 ?_ | refine zE2 ?_ | refine zE4 ?_ | refine zE5 ?_ | refine zE6 ?_ | refine zE7 ?_ | refine zE8 ?_) | (refine b_s (fun hb => ?_) (fun hb => ?_) <;> ((try simp only [hn1, hn2, hn3, hn4] at hb); first | (exfalso; omega) | skip)) | (refine t_gs (fun hb => ?_) (fun hb => ?_)) <;> ((try simp only [hn1, hn2] at hb); rw [hb]; try simp only [hn3, hn4] at hb)
  all_goals (refine ⟨rfl, ?_⟩)
  all_goals simp [letterF, *, one1, pHeap, PS.cells, upd_upd]
end Go.Proofs.Bv
namespace Go.Proofs.Bv
open Go
theorem ok116 : codeOk 24 (Tryz.f116.body.getD .skip) = true := by kernel_rfl
theorem byteCells_get (w : ByteArray) (i : Nat) : (byteCells w)[i * 1]? = (w.data.toList[i]?).map fun b => AV.sc (.int .u8 b.toNat) := by
  simp [byteCells]
theorem pHeap_at (h : Heap) (L : AV) (s : PS) : pHeap h L s 4 = some (.cells (s.cells L) 0 false) := upd_same _ _ _
theorem pHeap_self {h : Heap} {L : AV} {s : PS} (hh : h 4 = some (.cells (s.cells L) 0 false)) : pHeap h L s = h := by
  funext b
  unfold pHeap upd
  split
  · rename_i e; subst e; exact hh.symm
  · rfl
theorem pHeap_pHeap (h : Heap) (L : AV) (s s' : PS) : pHeap (pHeap h L s) L s' = pHeap h L s' := upd_upd _ _ _ _
theorem letter_pos {c : Int} {s s' : PS} (h : letterF c s = some s') : s'.pos = s.pos := by
  unfold letterF at h
  repeat' split at h
  all_goals first | (injection h with h; subst h; rfl) | cases h
def lettersQ (h : Heap) (n : Nat) (L : AV) (pos : Nat) (r : Bool × PS) (p : Bool) (v : AV) (h' : Heap) (n' : Nat) : Prop :=
  h' = pHeap h L r.2 ∧ n' = n ∧ p = !r.1 ∧ v = if r.1 then .tup [] else .ifc 83 (.agg [.sc (.int .i64 pos), .sc (.int .i64 271)])
set_option maxRecDepth 100000 in
set_option maxHeartbeats 1000000 in
theorem pf116 (G : Nat → Option (List AV)) (w : ByteArray) (hw : w.size ≤ 140737488355328) (L : AV) (s : PS) (h : Heap) (n : Nat) (hh : h 4 = some (.cells (s.cells L) 0 false)) :
    Pf (Cf G) 116 [.ptr 4 0, .sc (.string w)] h n (lettersQ h n L s.pos (lettersF w.data.toList s)) := by
  refine pf_enter (C := Cf G) Tryz.func116 rfl ok116 (by rfl) ?_
  simp only [Tryz.f116, Option.getD_some]
  repeat' first | refine t_p rfl ?_ | refine t_sr ?_ | refine t_nil ?_ | refine t_seq ?_ | refine t_region ?_ | refine t_block ?_ | refine t_cond ?_ | refine b_t ?_ | refine b_f ?_ | refine t_skip ?_ | refine t_exit ?_ | refine t_ret ?_ | refine t_onN ?_ | refine t_onE ?_ | refine t_onR ?_ | refine t_onP ?_ | refine t_xN ?_ | refine t_xR ?_ | refine t_xP ?_ | refine t_xS ?_ | refine t_xO (by decide) ?_ | refine t_gt ?_ | refine t_gf rfl ?_ | refine t_wr ?_ | refine t_wn ?_ | refine t_wp ?_ | refine t_on rfl ?_ | refine t_pan rfl ?_ | refine t_mki rfl ?_ | refine t_tas rfl ?_ | refine t_def rfl ?_ | refine t_op rfl ?_ | refine t_gd rfl ?_ | ((first | refine zE1 ?_); (conv => arg 1; try simp only [go_sem, Nat.reduceEqDiff, reduceIte, Nat.reduceAdd, Nat.reduceLeDiff, Nat.reduceMul, Int.reduceEq, Int.reduceLT, Int.reduceLE, Int.reduceNeg, Int.reduceAdd, Int.reduceSub, Nat.reduceLT, Nat.reduceBEq, Nat.reduceSub, Nat.reducePow, Option.map_none, Option.isSome_none, Int.natCast_zero, rep, hh]); first | refine zE3 ?_ | refine zE2 ?_ | refine zE4 ?_ | refine zE5 ?_ | refine zE6 ?_ | refine zE7 ?_ | refine zE8 ?_) | (refine b_s (fun hb => ?_) (fun hb => ?_) <;> ((try simp only [hn1, hn2, hn3, hn4] at hb); first | (exfalso; omega) | skip)) | (refine t_gs (fun hb => ?_) (fun hb => ?_)) <;> ((try simp only [hn1, hn2] at hb); rw [hb]; try simp only [hn3, hn4] at hb)
  refine t_loop (fun k st D => D = none ∧ ∃ (i : Nat) (si : PS) (T : Nat → AV), i + k = w.size ∧ st = ⟨T, pHeap h L si, n⟩ ∧ T 0 = .ptr 4 0 ∧ T 7 = .psl (byteCells w) w.size ∧ T 8 = .sc (.int .i64 w.size) ∧ T 9 = .sc (.int .i64 i) ∧ si.pos = s.pos ∧ lettersF (w.data.toList.drop i) si = lettersF w.data.toList s) ?_ w.size _ _ ?_
  · rintro k st D ⟨rfl, i, si, T, hk, rfl, h0, h7, h8, h9, hpos, hl⟩
    have hat := pHeap_at h L si
    by_cases hlt : i < w.size
    · have hi : i < w.data.toList.length := by simpa using hlt
      have hget : (byteCells w)[i * 1]? = some (.sc (.int .u8 (w.data.toList[i].toNat))) := by rw [byteCells_get, List.getElem?_eq_getElem hi]; rfl
      have hlt' : (i < w.size) = True := eq_true hlt
      have hadd : IntKind.i64.wrap ((i : Int) + 1) = ((i + 1 : Nat) : Int) := by rw [i64 (by omega) (by omega)]; rfl
      rw [List.drop_eq_getElem_cons hi] at hl
      have hc := pf165 G (w.data.toList[i].toNat) L si (pHeap h L si) n hat
      cases hls : letterF (w.data.toList[i].toNat) si with
      | some s' =>
        simp only [hls, Option.isSome_some, pHeap_pHeap] at hc
        simp only [lettersF, hls] at hl
        repeat' first | refine t_p rfl ?_ | refine t_sr ?_ | refine t_nil ?_ | refine t_seq ?_ | refine t_region ?_ | refine t_block ?_ | refine t_cond ?_ | refine b_t ?_ | refine b_f ?_ | refine t_skip ?_ | refine t_exit ?_ | refine t_ret ?_ | refine t_onN ?_ | refine t_onE ?_ | refine t_onR ?_ | refine t_onP ?_ | refine t_xN ?_ | refine t_xR ?_ | refine t_xP ?_ | refine t_xS ?_ | refine t_xO (by decide) ?_ | refine t_gt ?_ | refine t_gf rfl ?_ | refine t_wr ?_ | refine t_wn ?_ | refine t_wp ?_ | refine t_on rfl ?_ | refine t_pan rfl ?_ | refine t_mki rfl ?_ | refine t_tas rfl ?_ | refine t_def rfl ?_ | refine t_op rfl ?_ | refine t_kR (hc) rfl ?_ | refine t_kP (hc) ?_ | refine t_n0 rfl ?_ | refine t_gd rfl ?_ | ((first | refine zE1 ?_ | refine t_cl rfl ?_); (conv => arg 1; try simp only [go_sem, Nat.reduceEqDiff, reduceIte, Nat.reduceAdd, Nat.reduceLeDiff, Nat.reduceMul, Int.reduceEq, Int.reduceLT, Int.reduceLE, Int.reduceNeg, Int.reduceAdd, Int.reduceSub, Nat.reduceLT, Nat.reduceBEq, Nat.reduceSub, Nat.reducePow, Option.map_none, Option.isSome_none, Int.natCast_zero, rep, h0, h7, h8, h9, hat, hget, hlt', hadd]); first | refine zE3 ?_ | refine zE2 ?_ | refine zE4 ?_ | refine zE5 ?_ | refine zE6 ?_ | refine zE7 ?_ | refine zE8 ?_) | (refine b_s (fun hb => ?_) (fun hb => ?_) <;> ((try simp only [hn1, hn2, hn3, hn4] at hb); first | (exfalso; omega) | skip)) | (refine t_gs (fun hb => ?_) (fun hb => ?_)) <;> ((try simp only [hn1, hn2] at hb); rw [hb]; try simp only [hn3, hn4] at hb)
        refine ⟨k - 1, by omega, rfl, i + 1, s', _, by omega, rfl, ?_, ?_, ?_, ?_, by rw [letter_pos hls, hpos], hl⟩
        all_goals simp only [upd_ap, Nat.reduceEqDiff, if_true, if_false, reduceIte, h0, h7, h8]
      | none =>
        simp only [hls, Option.isSome_none] at hc
        simp only [lettersF, hls] at hl
        simp only [PS.cells] at hat
        repeat' first | refine t_p rfl ?_ | refine t_sr ?_ | refine t_nil ?_ | refine t_seq ?_ | refine t_region ?_ | refine t_block ?_ | refine t_cond ?_ | refine b_t ?_ | refine b_f ?_ | refine t_skip ?_ | refine t_exit ?_ | refine t_ret ?_ | refine t_onN ?_ | refine t_onE ?_ | refine t_onR ?_ | refine t_onP ?_ | refine t_xN ?_ | refine t_xR ?_ | refine t_xP ?_ | refine t_xS ?_ | refine t_xO (by decide) ?_ | refine t_gt ?_ | refine t_gf rfl ?_ | refine t_wr ?_ | refine t_wn ?_ | refine t_wp ?_ | refine t_on rfl ?_ | refine t_pan rfl ?_ | refine t_mki rfl ?_ | refine t_tas rfl ?_ | refine t_def rfl ?_ | refine t_op rfl ?_ | refine t_kR (hc) rfl ?_ | refine t_kP (hc) ?_ | refine t_kR (pf78 G _ _ _ _ _) rfl ?_ | refine t_kP (pf78 G _ _ _ _ _) ?_ | refine t_n0 rfl ?_ | refine t_gd rfl ?_ | ((first | refine zE1 ?_ | refine t_cl rfl ?_); (conv => arg 1; try simp only [go_sem, Nat.reduceEqDiff, reduceIte, Nat.reduceAdd, Nat.reduceLeDiff, Nat.reduceMul, Int.reduceEq, Int.reduceLT, Int.reduceLE, Int.reduceNeg, Int.reduceAdd, Int.reduceSub, Nat.reduceLT, Nat.reduceBEq, Nat.reduceSub, Nat.reducePow, Option.map_none, Option.isSome_none, Int.natCast_zero, rep, h0, h7, h8, h9, hat, hget, hlt', hadd]); first | refine zE3 ?_ | refine zE2 ?_ | refine zE4 ?_ | refine zE5 ?_ | refine zE6 ?_ | refine zE7 ?_ | refine zE8 ?_) | (refine b_s (fun hb => ?_) (fun hb => ?_) <;> ((try simp only [hn1, hn2, hn3, hn4] at hb); first | (exfalso; omega) | skip)) | (refine t_gs (fun hb => ?_) (fun hb => ?_)) <;> ((try simp only [hn1, hn2] at hb); rw [hb]; try simp only [hn3, hn4] at hb)
        rw [← hl]
        exact ⟨rfl, rfl, rfl, by rw [hpos]; rfl⟩
    · have hge : ¬ (i : Int) < w.size := by omega
      repeat' first | refine t_p rfl ?_ | refine t_sr ?_ | refine t_nil ?_ | refine t_seq ?_ | refine t_region ?_ | refine t_block ?_ | refine t_cond ?_ | refine b_t ?_ | refine b_f ?_ | refine t_skip ?_ | refine t_exit ?_ | refine t_ret ?_ | refine t_onN ?_ | refine t_onE ?_ | refine t_onR ?_ | refine t_onP ?_ | refine t_xN ?_ | refine t_xR ?_ | refine t_xP ?_ | refine t_xS ?_ | refine t_xO (by decide) ?_ | refine t_gt ?_ | refine t_gf rfl ?_ | refine t_wr ?_ | refine t_wn ?_ | refine t_wp ?_ | refine t_on rfl ?_ | refine t_pan rfl ?_ | refine t_mki rfl ?_ | refine t_tas rfl ?_ | refine t_def rfl ?_ | refine t_op rfl ?_ | refine t_gd rfl ?_ | ((first | refine zE1 ?_); (conv => arg 1; try simp only [go_sem, Nat.reduceEqDiff, reduceIte, Nat.reduceAdd, Nat.reduceLeDiff, Nat.reduceMul, Int.reduceEq, Int.reduceLT, Int.reduceLE, Int.reduceNeg, Int.reduceAdd, Int.reduceSub, Nat.reduceLT, Nat.reduceBEq, Nat.reduceSub, Nat.reducePow, Option.map_none, Option.isSome_none, Int.natCast_zero, rep, h0, h7, h8, h9, hat]); first | refine zE3 ?_ | refine zE2 ?_ | refine zE4 ?_ | refine zE5 ?_ | refine zE6 ?_ | refine zE7 ?_ | refine zE8 ?_) | (refine b_s (fun hb => ?_) (fun hb => ?_) <;> ((try simp only [hn1, hn2, hn3, hn4] at hb); first | (exfalso; omega) | skip)) | (refine t_gs (fun hb => ?_) (fun hb => ?_)) <;> ((try simp only [hn1, hn2] at hb); rw [hb]; try simp only [hn3, hn4] at hb)
      rw [List.drop_eq_nil_of_le (by simp; omega)] at hl
      rw [← hl]
      exact ⟨rfl, rfl, rfl, rfl⟩
  · exact ⟨rfl, 0, s, _, by omega, congrArg (fun x => (⟨_, x, n⟩ : St)) (pHeap_self hh).symm, rfl, rfl, rfl, rfl, rfl, rfl⟩
end Go.Proofs.Bv
namespace Go.Proofs.Bv
open Go
theorem bnds_lo {len k : Nat} (hk : k ≤ len) : bnds len (some (.sc (.int .i64 (k : Int)))) none = some (k, len) := by
  simp [bnds, asNat, hk]
theorem ok113 : codeOk 8 (Tryz.f113.body.getD .skip) = true := by kernel_rfl
theorem ok131 : codeOk 18 (Tryz.f131.body.getD .skip) = true := by kernel_rfl
theorem ok77 : codeOk 75 (Tryz.f77.body.getD .skip) = true := by kernel_rfl
def wDash : ByteArray := ⟨#[45]⟩
def preB (w : ByteArray) : Bool := if (1 : Int) ≤ w.size then (w.extract 0 1).toList == wDash.toList else false
set_option maxRecDepth 100000 in
theorem pc131 (G : Nat → Option (List AV)) (w : ByteArray) : Pc (Cf G) 131 [.sc (.string w), .sc (.string wDash)] (.sc (.bool (preB w))) := by
  refine Pc_of (Gf_enter (C := Cf G) Tryz.func131 rfl ok131 (Nat.le_of_ble_eq_true rfl) ?_)
  simp only [Tryz.f131, Option.getD_some]
  have hs : wDash.size = 1 := rfl
  by_cases h1 : (1 : Int) ≤ w.size
  · have hb1 : bnds w.size none (some (.sc (.int .i64 1))) = some (0, 1) := bnds_hi (k := 1) (by omega)
    repeat' first | refine w_op rfl rfl ?_ | refine x_p rfl ?_ | refine w_sr ?_ | refine st_nil ?_ | refine w_seq ?_ | refine st_region ?_ | refine st_block ?_ | refine w_cond ?_ | refine b_t ?_ | refine b_f ?_ | refine st_skip ?_ | refine st_exit ?_ | refine st_ret ?_ | refine st_onNormN ?_ | refine st_onNormE ?_ | refine st_onNormR ?_ | refine st_onExitN ?_ | refine st_onExitR ?_ | refine st_onExitS ?_ | refine st_onExitO (by decide) ?_ | refine g_t ?_ | refine g_f rfl ?_ | refine o_op rfl ?_ | refine w_wr ?_ | refine w_wn ?_ | refine d_c rfl ?_ | refine d_on rfl ?_ | refine d_op rfl ?_ | refine d_y ?_ | refine d_gd rfl ?_ | refine d_t ?_ | refine d_f ?_ | refine d_nil ?_ | refine w_dr rfl ?_ | refine d_q ?_ | refine w_gd rfl ?_ | ((first | refine zE1 ?_); (conv => arg 1; try simp only [go_sem, Nat.reduceEqDiff, reduceIte, Nat.reduceAdd, Nat.reduceLeDiff, Nat.reduceMul, Int.reduceEq, Int.reduceLT, Int.reduceLE, Int.reduceNeg, Int.reduceAdd, Int.reduceSub, Nat.reduceLT, Nat.reduceBEq, Nat.reduceSub, Nat.reducePow, h1, hs, hb1, Int.natCast_one, Option.map_none, Option.isSome_none]); first | refine zE3 ?_ | refine zE2 ?_ | refine zE4 ?_ | refine zE5 ?_ | refine zE6 ?_ | refine zE7 ?_ | refine zE8 ?_) | (refine w_u false ?_; (conv => arg 1; reduce); refine zR1 ?_) | (refine b_s (fun hb => ?_) (fun hb => ?_) <;> ((try simp only [hn1, hn2, hn3, hn4] at hb); first | (exfalso; omega) | skip)) | (first | refine g_s (fun hb => ?_) (fun hb => ?_) | refine d_s (fun hb => ?_) (fun hb => ?_)) <;> ((try simp only [hn1, hn2] at hb); rw [hb]; try simp only [hn3, hn4] at hb)
    simp only [one1, frz_sc, Option.map_some, preB, h1, if_true]
  · repeat' first | refine w_op rfl rfl ?_ | refine x_p rfl ?_ | refine w_sr ?_ | refine st_nil ?_ | refine w_seq ?_ | refine st_region ?_ | refine st_block ?_ | refine w_cond ?_ | refine b_t ?_ | refine b_f ?_ | refine st_skip ?_ | refine st_exit ?_ | refine st_ret ?_ | refine st_onNormN ?_ | refine st_onNormE ?_ | refine st_onNormR ?_ | refine st_onExitN ?_ | refine st_onExitR ?_ | refine st_onExitS ?_ | refine st_onExitO (by decide) ?_ | refine g_t ?_ | refine g_f rfl ?_ | refine o_op rfl ?_ | refine w_wr ?_ | refine w_wn ?_ | refine d_c rfl ?_ | refine d_on rfl ?_ | refine d_op rfl ?_ | refine d_y ?_ | refine d_gd rfl ?_ | refine d_t ?_ | refine d_f ?_ | refine d_nil ?_ | refine w_dr rfl ?_ | refine d_q ?_ | refine w_gd rfl ?_ | ((first | refine zE1 ?_); (conv => arg 1; try simp only [go_sem, Nat.reduceEqDiff, reduceIte, Nat.reduceAdd, Nat.reduceLeDiff, Nat.reduceMul, Int.reduceEq, Int.reduceLT, Int.reduceLE, Int.reduceNeg, Int.reduceAdd, Int.reduceSub, Nat.reduceLT, Nat.reduceBEq, Nat.reduceSub, Nat.reducePow, h1, hs, Int.natCast_one]); first | refine zE3 ?_ | refine zE2 ?_ | refine zE4 ?_ | refine zE5 ?_ | refine zE6 ?_ | refine zE7 ?_ | refine zE8 ?_) | (refine w_u false ?_; (conv => arg 1; reduce); refine zR1 ?_) | (refine b_s (fun hb => ?_) (fun hb => ?_) <;> ((try simp only [hn1, hn2, hn3, hn4] at hb); first | (exfalso; omega) | skip)) | (first | refine g_s (fun hb => ?_) (fun hb => ?_) | refine d_s (fun hb => ?_) (fun hb => ?_)) <;> ((try simp only [hn1, hn2] at hb); rw [hb]; try simp only [hn3, hn4] at hb)
    simp only [one1, frz_sc, Option.map_some, preB, h1, if_false]
set_option maxRecDepth 100000 in
theorem pc113 (G : Nat → Option (List AV)) (w : ByteArray) : Pc (Cf G) 113 [.sc (.string w), .sc (.string wDash)] (.sc (.bool (preB w))) := by
  refine Pc_of (Gf_enter (C := Cf G) Tryz.func113 rfl ok113 (Nat.le_of_ble_eq_true rfl) ?_)
  simp only [Tryz.f113, Option.getD_some]
  have hc := pc131 G w
  repeat' first | refine w_op rfl rfl ?_ | refine x_p rfl ?_ | refine w_sr ?_ | refine st_nil ?_ | refine w_seq ?_ | refine st_region ?_ | refine st_block ?_ | refine w_cond ?_ | refine b_t ?_ | refine b_f ?_ | refine st_skip ?_ | refine st_exit ?_ | refine st_ret ?_ | refine st_onNormN ?_ | refine st_onNormE ?_ | refine st_onNormR ?_ | refine st_onExitN ?_ | refine st_onExitR ?_ | refine st_onExitS ?_ | refine st_onExitO (by decide) ?_ | refine g_t ?_ | refine g_f rfl ?_ | refine o_op rfl ?_ | refine w_wr ?_ | refine w_wn ?_ | refine d_c rfl ?_ | refine d_on rfl ?_ | refine d_op rfl ?_ | refine d_y ?_ | refine d_gd rfl ?_ | refine d_t ?_ | refine d_f ?_ | refine d_nil ?_ | refine w_dr rfl ?_ | refine d_q ?_ | refine n_0 rfl ?_ | refine d_n ?_ | refine k_p rfl rfl rfl rfl (hc) ?_ | refine w_gd rfl ?_ | ((first | refine zE1 ?_ | refine w_cl rfl rfl ?_ | refine o_cl rfl ?_ | refine d_cl rfl ?_); (conv => arg 1; try simp only [go_sem, Nat.reduceEqDiff, reduceIte, Nat.reduceAdd, Nat.reduceLeDiff, Nat.reduceMul, Int.reduceEq, Int.reduceLT, Int.reduceLE, Int.reduceNeg, Int.reduceAdd, Int.reduceSub, Nat.reduceLT, Nat.reduceBEq, Nat.reduceSub, Nat.reducePow]); first | refine zE3 ?_ | refine zE2 ?_ | refine zE4 ?_ | refine zE5 ?_ | refine zE6 ?_ | refine zE7 ?_ | refine zE8 ?_) | (refine w_u false ?_; (conv => arg 1; reduce); refine zR1 ?_) | (refine b_s (fun hb => ?_) (fun hb => ?_) <;> ((try simp only [hn1, hn2, hn3, hn4] at hb); first | (exfalso; omega) | skip)) | (first | refine g_s (fun hb => ?_) (fun hb => ?_) | refine d_s (fun hb => ?_) (fun hb => ?_)) <;> ((try simp only [hn1, hn2] at hb); rw [hb]; try simp only [hn3, hn4] at hb)
  simp only [one1, frz_sc, Option.map_some]
def wordF (w : ByteArray) (s : PS) : Option (Nat × Int) × PS :=
  if s.pl || (w.toList == (⟨#[45]⟩ : ByteArray).toList) || !preB w then
    if s.fd then (some (s.pos, 271), s)
    else if (chkFrom w 0).2 = 0 then (none, { s with fl := w, fd := true })
    else (some (s.pos, (chkFrom w 0).2), s)
  else if w.toList == (⟨#[45, 45]⟩ : ByteArray).toList then (none, { s with pl := true })
  else (if (lettersF (w.extract 1 w.size).data.toList s).1 then none else some (s.pos, 271), (lettersF (w.extract 1 w.size).data.toList s).2)
def wordQ (h : Heap) (n : Nat) (L : AV) (r : Option (Nat × Int) × PS) (p : Bool) (v : AV) (h' : Heap) (n' : Nat) : Prop :=
  h' = pHeap h L r.2 ∧ n' = n ∧ match r.1 with
    | none => p = false ∧ v = .tup []
    | some (a, e) => p = true ∧ v = .ifc 83 (.agg [.sc (.int .i64 a), .sc (.int .i64 e)])
structure Short (w : ByteArray) : Prop where
  i : (w.toList == (⟨#[45, 45, 105, 110, 100, 101, 110, 116]⟩ : ByteArray).toList) = false
  a : (w.toList == (⟨#[45, 45, 97, 114, 103]⟩ : ByteArray).toList) = false
  j : (w.toList == (⟨#[45, 45, 97, 114, 103, 106, 115, 111, 110]⟩ : ByteArray).toList) = false
set_option maxRecDepth 100000 in
set_option maxHeartbeats 2000000 in
theorem pf77 (G : Nat → Option (List AV)) (w : ByteArray) (s : PS) (hw : w.size ≤ 140737488355328) (hsh : s.pl = false → Short w) (L : AV) (h : Heap) (n : Nat) (hh : h 4 = some (.cells (s.cells L) 0 false)) :
    Pf (Cf G) 77 [.ptr 4 0, .sc (.string w)] h n (wordQ h n L (wordF w s)) := by
  refine pf_enter (C := Cf G) Tryz.func77 rfl ok77 (by rfl) ?_
  simp only [Tryz.f77, Option.getD_some]
  have hp := pc113 G w
  have hk := pc45 G w hw
  have hat := hh
  simp only [PS.cells] at hat
  have hself := pHeap_self hh
  generalize hW : wordF w s = r
  unfold wordF at hW
  by_cases hfl : (s.pl || (w.toList == (⟨#[45]⟩ : ByteArray).toList) || !preB w) = true
  · rw [if_pos hfl] at hW
    by_cases hfd : s.fd = true
    · rw [if_pos hfd] at hW
      subst hW
      have Q0 : wordQ h n L (some (s.pos, 271), s) true (.ifc 83 (.agg [.sc (.int .i64 s.pos), .sc (.int .i64 271)])) h n := ⟨hself.symm, rfl, rfl, rfl⟩
      cases hpl : s.pl with
      | true =>
        repeat' first | refine t_p rfl ?_ | refine t_sr ?_ | refine t_nil ?_ | refine t_seq ?_ | refine t_region ?_ | refine t_block ?_ | refine t_cond ?_ | refine b_t ?_ | refine b_f ?_ | refine t_skip ?_ | refine t_exit ?_ | refine t_ret ?_ | refine t_onN ?_ | refine t_onE ?_ | refine t_onR ?_ | refine t_onP ?_ | refine t_xN ?_ | refine t_xR ?_ | refine t_xP ?_ | refine t_xS ?_ | refine t_xO (by decide) ?_ | refine t_gt ?_ | refine t_gf rfl ?_ | refine t_wr ?_ | refine t_wn ?_ | refine t_wp ?_ | refine t_on rfl ?_ | refine t_pan rfl ?_ | refine t_mki rfl ?_ | refine t_tas rfl ?_ | refine t_def rfl ?_ | refine t_op rfl ?_ | refine t_kR (pf78 G _ _ _ _ _) rfl ?_ | refine t_kP (pf78 G _ _ _ _ _) ?_ | refine t_n0 rfl ?_ | refine t_gd rfl ?_ | ((first | refine zE1 ?_ | refine t_cl rfl ?_); (conv => arg 1; try simp only [go_sem, Nat.reduceEqDiff, reduceIte, Nat.reduceAdd, Nat.reduceLeDiff, Nat.reduceMul, Int.reduceEq, Int.reduceLT, Int.reduceLE, Int.reduceNeg, Int.reduceAdd, Int.reduceSub, Nat.reduceLT, Nat.reduceBEq, Nat.reduceSub, Nat.reducePow, Option.map_none, Option.isSome_none, Int.natCast_zero, rep, hat, hpl, hfd]); first | refine zE3 ?_ | refine zE2 ?_ | refine zE4 ?_ | refine zE5 ?_ | refine zE6 ?_ | refine zE7 ?_ | refine zE8 ?_) | (refine b_s (fun hb => ?_) (fun hb => ?_) <;> ((try simp only [hn1, hn2, hn3, hn4] at hb); first | (exfalso; omega) | skip)) | (refine t_gs (fun hb => ?_) (fun hb => ?_)) <;> ((try simp only [hn1, hn2] at hb); rw [hb]; try simp only [hn3, hn4] at hb)
        exact Q0
      | false =>
        cases hd : (w.toList == (⟨#[45]⟩ : ByteArray).toList) with
        | true =>
          repeat' first | refine t_p rfl ?_ | refine t_sr ?_ | refine t_nil ?_ | refine t_seq ?_ | refine t_region ?_ | refine t_block ?_ | refine t_cond ?_ | refine b_t ?_ | refine b_f ?_ | refine t_skip ?_ | refine t_exit ?_ | refine t_ret ?_ | refine t_onN ?_ | refine t_onE ?_ | refine t_onR ?_ | refine t_onP ?_ | refine t_xN ?_ | refine t_xR ?_ | refine t_xP ?_ | refine t_xS ?_ | refine t_xO (by decide) ?_ | refine t_gt ?_ | refine t_gf rfl ?_ | refine t_wr ?_ | refine t_wn ?_ | refine t_wp ?_ | refine t_on rfl ?_ | refine t_pan rfl ?_ | refine t_mki rfl ?_ | refine t_tas rfl ?_ | refine t_def rfl ?_ | refine t_op rfl ?_ | refine t_kR (pf78 G _ _ _ _ _) rfl ?_ | refine t_kP (pf78 G _ _ _ _ _) ?_ | refine t_n0 rfl ?_ | refine t_gd rfl ?_ | ((first | refine zE1 ?_ | refine t_cl rfl ?_); (conv => arg 1; try simp only [go_sem, Nat.reduceEqDiff, reduceIte, Nat.reduceAdd, Nat.reduceLeDiff, Nat.reduceMul, Int.reduceEq, Int.reduceLT, Int.reduceLE, Int.reduceNeg, Int.reduceAdd, Int.reduceSub, Nat.reduceLT, Nat.reduceBEq, Nat.reduceSub, Nat.reducePow, Option.map_none, Option.isSome_none, Int.natCast_zero, rep, hat, hpl, hfd, hd]); first | refine zE3 ?_ | refine zE2 ?_ | refine zE4 ?_ | refine zE5 ?_ | refine zE6 ?_ | refine zE7 ?_ | refine zE8 ?_) | (refine b_s (fun hb => ?_) (fun hb => ?_) <;> ((try simp only [hn1, hn2, hn3, hn4] at hb); first | (exfalso; omega) | skip)) | (refine t_gs (fun hb => ?_) (fun hb => ?_)) <;> ((try simp only [hn1, hn2] at hb); rw [hb]; try simp only [hn3, hn4] at hb)
          exact Q0
        | false =>
          rw [hpl, hd] at hfl
          have hpr : preB w = false := by simpa using hfl
          repeat' first | refine t_p rfl ?_ | refine t_sr ?_ | refine t_nil ?_ | refine t_seq ?_ | refine t_region ?_ | refine t_block ?_ | refine t_cond ?_ | refine b_t ?_ | refine b_f ?_ | refine t_skip ?_ | refine t_exit ?_ | refine t_ret ?_ | refine t_onN ?_ | refine t_onE ?_ | refine t_onR ?_ | refine t_onP ?_ | refine t_xN ?_ | refine t_xR ?_ | refine t_xP ?_ | refine t_xS ?_ | refine t_xO (by decide) ?_ | refine t_gt ?_ | refine t_gf rfl ?_ | refine t_wr ?_ | refine t_wn ?_ | refine t_wp ?_ | refine t_on rfl ?_ | refine t_pan rfl ?_ | refine t_mki rfl ?_ | refine t_tas rfl ?_ | refine t_def rfl ?_ | refine t_op rfl ?_ | refine t_k (k_p rfl rfl rfl rfl (hp) ?_) | refine t_kR (pf78 G _ _ _ _ _) rfl ?_ | refine t_kP (pf78 G _ _ _ _ _) ?_ | refine t_n0 rfl ?_ | refine t_gd rfl ?_ | ((first | refine zE1 ?_ | refine t_cl rfl ?_); (conv => arg 1; try simp only [go_sem, Nat.reduceEqDiff, reduceIte, Nat.reduceAdd, Nat.reduceLeDiff, Nat.reduceMul, Int.reduceEq, Int.reduceLT, Int.reduceLE, Int.reduceNeg, Int.reduceAdd, Int.reduceSub, Nat.reduceLT, Nat.reduceBEq, Nat.reduceSub, Nat.reducePow, Option.map_none, Option.isSome_none, Int.natCast_zero, rep, hat, hpl, hfd, hd, hpr]); first | refine zE3 ?_ | refine zE2 ?_ | refine zE4 ?_ | refine zE5 ?_ | refine zE6 ?_ | refine zE7 ?_ | refine zE8 ?_) | (refine b_s (fun hb => ?_) (fun hb => ?_) <;> ((try simp only [hn1, hn2, hn3, hn4] at hb); first | (exfalso; omega) | skip)) | (refine t_gs (fun hb => ?_) (fun hb => ?_)) <;> ((try simp only [hn1, hn2] at hb); rw [hb]; try simp only [hn3, hn4] at hb)
          exact Q0
    · rw [if_neg hfd] at hW
      have hfd' : s.fd = false := by simpa using hfd
      by_cases hc : (chkFrom w 0).2 = 0
      · rw [if_pos hc] at hW
        subst hW
        have hcT : ((chkFrom w 0).2 = 0) = True := eq_true hc
        cases hpl : s.pl with
        | true =>
          repeat' first | refine t_p rfl ?_ | refine t_sr ?_ | refine t_nil ?_ | refine t_seq ?_ | refine t_region ?_ | refine t_block ?_ | refine t_cond ?_ | refine b_t ?_ | refine b_f ?_ | refine t_skip ?_ | refine t_exit ?_ | refine t_ret ?_ | refine t_onN ?_ | refine t_onE ?_ | refine t_onR ?_ | refine t_onP ?_ | refine t_xN ?_ | refine t_xR ?_ | refine t_xP ?_ | refine t_xS ?_ | refine t_xO (by decide) ?_ | refine t_gt ?_ | refine t_gf rfl ?_ | refine t_wr ?_ | refine t_wn ?_ | refine t_wp ?_ | refine t_on rfl ?_ | refine t_pan rfl ?_ | refine t_mki rfl ?_ | refine t_tas rfl ?_ | refine t_def rfl ?_ | refine t_op rfl ?_ | refine t_k (k_p rfl rfl rfl rfl (hk) ?_) | refine t_n0 rfl ?_ | refine t_gd rfl ?_ | ((first | refine zE1 ?_ | refine t_cl rfl ?_); (conv => arg 1; try simp only [go_sem, Nat.reduceEqDiff, reduceIte, Nat.reduceAdd, Nat.reduceLeDiff, Nat.reduceMul, Int.reduceEq, Int.reduceLT, Int.reduceLE, Int.reduceNeg, Int.reduceAdd, Int.reduceSub, Nat.reduceLT, Nat.reduceBEq, Nat.reduceSub, Nat.reducePow, Option.map_none, Option.isSome_none, Int.natCast_zero, rep, hat, hpl, hfd', hcT]); first | refine zE3 ?_ | refine zE2 ?_ | refine zE4 ?_ | refine zE5 ?_ | refine zE6 ?_ | refine zE7 ?_ | refine zE8 ?_) | (refine b_s (fun hb => ?_) (fun hb => ?_) <;> ((try simp only [hn1, hn2, hn3, hn4] at hb); first | (exfalso; omega) | skip)) | (refine t_gs (fun hb => ?_) (fun hb => ?_)) <;> ((try simp only [hn1, hn2] at hb); rw [hb]; try simp only [hn3, hn4] at hb)
          refine ⟨?_, rfl, rfl, rfl⟩
          simp [pHeap, PS.cells, upd_upd, hpl]
        | false =>
          cases hd : (w.toList == (⟨#[45]⟩ : ByteArray).toList) with
          | true =>
            repeat' first | refine t_p rfl ?_ | refine t_sr ?_ | refine t_nil ?_ | refine t_seq ?_ | refine t_region ?_ | refine t_block ?_ | refine t_cond ?_ | refine b_t ?_ | refine b_f ?_ | refine t_skip ?_ | refine t_exit ?_ | refine t_ret ?_ | refine t_onN ?_ | refine t_onE ?_ | refine t_onR ?_ | refine t_onP ?_ | refine t_xN ?_ | refine t_xR ?_ | refine t_xP ?_ | refine t_xS ?_ | refine t_xO (by decide) ?_ | refine t_gt ?_ | refine t_gf rfl ?_ | refine t_wr ?_ | refine t_wn ?_ | refine t_wp ?_ | refine t_on rfl ?_ | refine t_pan rfl ?_ | refine t_mki rfl ?_ | refine t_tas rfl ?_ | refine t_def rfl ?_ | refine t_op rfl ?_ | refine t_k (k_p rfl rfl rfl rfl (hk) ?_) | refine t_n0 rfl ?_ | refine t_gd rfl ?_ | ((first | refine zE1 ?_ | refine t_cl rfl ?_); (conv => arg 1; try simp only [go_sem, Nat.reduceEqDiff, reduceIte, Nat.reduceAdd, Nat.reduceLeDiff, Nat.reduceMul, Int.reduceEq, Int.reduceLT, Int.reduceLE, Int.reduceNeg, Int.reduceAdd, Int.reduceSub, Nat.reduceLT, Nat.reduceBEq, Nat.reduceSub, Nat.reducePow, Option.map_none, Option.isSome_none, Int.natCast_zero, rep, hat, hpl, hfd', hd, hcT]); first | refine zE3 ?_ | refine zE2 ?_ | refine zE4 ?_ | refine zE5 ?_ | refine zE6 ?_ | refine zE7 ?_ | refine zE8 ?_) | (refine b_s (fun hb => ?_) (fun hb => ?_) <;> ((try simp only [hn1, hn2, hn3, hn4] at hb); first | (exfalso; omega) | skip)) | (refine t_gs (fun hb => ?_) (fun hb => ?_)) <;> ((try simp only [hn1, hn2] at hb); rw [hb]; try simp only [hn3, hn4] at hb)
            refine ⟨?_, rfl, rfl, rfl⟩
            simp [pHeap, PS.cells, upd_upd, hpl]
          | false =>
            rw [hpl, hd] at hfl
            have hpr : preB w = false := by simpa using hfl
            repeat' first | refine t_p rfl ?_ | refine t_sr ?_ | refine t_nil ?_ | refine t_seq ?_ | refine t_region ?_ | refine t_block ?_ | refine t_cond ?_ | refine b_t ?_ | refine b_f ?_ | refine t_skip ?_ | refine t_exit ?_ | refine t_ret ?_ | refine t_onN ?_ | refine t_onE ?_ | refine t_onR ?_ | refine t_onP ?_ | refine t_xN ?_ | refine t_xR ?_ | refine t_xP ?_ | refine t_xS ?_ | refine t_xO (by decide) ?_ | refine t_gt ?_ | refine t_gf rfl ?_ | refine t_wr ?_ | refine t_wn ?_ | refine t_wp ?_ | refine t_on rfl ?_ | refine t_pan rfl ?_ | refine t_mki rfl ?_ | refine t_tas rfl ?_ | refine t_def rfl ?_ | refine t_op rfl ?_ | refine t_k (k_p rfl rfl rfl rfl (hk) ?_) | refine t_k (k_p rfl rfl rfl rfl (hp) ?_) | refine t_n0 rfl ?_ | refine t_gd rfl ?_ | ((first | refine zE1 ?_ | refine t_cl rfl ?_); (conv => arg 1; try simp only [go_sem, Nat.reduceEqDiff, reduceIte, Nat.reduceAdd, Nat.reduceLeDiff, Nat.reduceMul, Int.reduceEq, Int.reduceLT, Int.reduceLE, Int.reduceNeg, Int.reduceAdd, Int.reduceSub, Nat.reduceLT, Nat.reduceBEq, Nat.reduceSub, Nat.reducePow, Option.map_none, Option.isSome_none, Int.natCast_zero, rep, hat, hpl, hfd', hd, hpr, hcT]); first | refine zE3 ?_ | refine zE2 ?_ | refine zE4 ?_ | refine zE5 ?_ | refine zE6 ?_ | refine zE7 ?_ | refine zE8 ?_) | (refine b_s (fun hb => ?_) (fun hb => ?_) <;> ((try simp only [hn1, hn2, hn3, hn4] at hb); first | (exfalso; omega) | skip)) | (refine t_gs (fun hb => ?_) (fun hb => ?_)) <;> ((try simp only [hn1, hn2] at hb); rw [hb]; try simp only [hn3, hn4] at hb)
            refine ⟨?_, rfl, rfl, rfl⟩
            simp [pHeap, PS.cells, upd_upd, hpl]
      · rw [if_neg hc] at hW
        subst hW
        have hcF : ((chkFrom w 0).2 = 0) = False := eq_false hc
        have Q0 : wordQ h n L (some (s.pos, (chkFrom w 0).2), s) true (.ifc 83 (.agg [.sc (.int .i64 s.pos), .sc (.int .i64 (chkFrom w 0).2)])) h n := ⟨hself.symm, rfl, rfl, rfl⟩
        cases hpl : s.pl with
        | true =>
          repeat' first | refine t_p rfl ?_ | refine t_sr ?_ | refine t_nil ?_ | refine t_seq ?_ | refine t_region ?_ | refine t_block ?_ | refine t_cond ?_ | refine b_t ?_ | refine b_f ?_ | refine t_skip ?_ | refine t_exit ?_ | refine t_ret ?_ | refine t_onN ?_ | refine t_onE ?_ | refine t_onR ?_ | refine t_onP ?_ | refine t_xN ?_ | refine t_xR ?_ | refine t_xP ?_ | refine t_xS ?_ | refine t_xO (by decide) ?_ | refine t_gt ?_ | refine t_gf rfl ?_ | refine t_wr ?_ | refine t_wn ?_ | refine t_wp ?_ | refine t_on rfl ?_ | refine t_pan rfl ?_ | refine t_mki rfl ?_ | refine t_tas rfl ?_ | refine t_def rfl ?_ | refine t_op rfl ?_ | refine t_k (k_p rfl rfl rfl rfl (hk) ?_) | refine t_kR (pf78 G _ _ _ _ _) rfl ?_ | refine t_kP (pf78 G _ _ _ _ _) ?_ | refine t_n0 rfl ?_ | refine t_gd rfl ?_ | ((first | refine zE1 ?_ | refine t_cl rfl ?_); (conv => arg 1; try simp only [go_sem, Nat.reduceEqDiff, reduceIte, Nat.reduceAdd, Nat.reduceLeDiff, Nat.reduceMul, Int.reduceEq, Int.reduceLT, Int.reduceLE, Int.reduceNeg, Int.reduceAdd, Int.reduceSub, Nat.reduceLT, Nat.reduceBEq, Nat.reduceSub, Nat.reducePow, Option.map_none, Option.isSome_none, Int.natCast_zero, rep, hat, hpl, hfd', hcF]); first | refine zE3 ?_ | refine zE2 ?_ | refine zE4 ?_ | refine zE5 ?_ | refine zE6 ?_ | refine zE7 ?_ | refine zE8 ?_) | (refine b_s (fun hb => ?_) (fun hb => ?_) <;> ((try simp only [hn1, hn2, hn3, hn4] at hb); first | (exfalso; omega) | skip)) | (refine t_gs (fun hb => ?_) (fun hb => ?_)) <;> ((try simp only [hn1, hn2] at hb); rw [hb]; try simp only [hn3, hn4] at hb)
          exact Q0
        | false =>
          cases hd : (w.toList == (⟨#[45]⟩ : ByteArray).toList) with
          | true =>
            repeat' first | refine t_p rfl ?_ | refine t_sr ?_ | refine t_nil ?_ | refine t_seq ?_ | refine t_region ?_ | refine t_block ?_ | refine t_cond ?_ | refine b_t ?_ | refine b_f ?_ | refine t_skip ?_ | refine t_exit ?_ | refine t_ret ?_ | refine t_onN ?_ | refine t_onE ?_ | refine t_onR ?_ | refine t_onP ?_ | refine t_xN ?_ | refine t_xR ?_ | refine t_xP ?_ | refine t_xS ?_ | refine t_xO (by decide) ?_ | refine t_gt ?_ | refine t_gf rfl ?_ | refine t_wr ?_ | refine t_wn ?_ | refine t_wp ?_ | refine t_on rfl ?_ | refine t_pan rfl ?_ | refine t_mki rfl ?_ | refine t_tas rfl ?_ | refine t_def rfl ?_ | refine t_op rfl ?_ | refine t_k (k_p rfl rfl rfl rfl (hk) ?_) | refine t_kR (pf78 G _ _ _ _ _) rfl ?_ | refine t_kP (pf78 G _ _ _ _ _) ?_ | refine t_n0 rfl ?_ | refine t_gd rfl ?_ | ((first | refine zE1 ?_ | refine t_cl rfl ?_); (conv => arg 1; try simp only [go_sem, Nat.reduceEqDiff, reduceIte, Nat.reduceAdd, Nat.reduceLeDiff, Nat.reduceMul, Int.reduceEq, Int.reduceLT, Int.reduceLE, Int.reduceNeg, Int.reduceAdd, Int.reduceSub, Nat.reduceLT, Nat.reduceBEq, Nat.reduceSub, Nat.reducePow, Option.map_none, Option.isSome_none, Int.natCast_zero, rep, hat, hpl, hfd', hd, hcF]); first | refine zE3 ?_ | refine zE2 ?_ | refine zE4 ?_ | refine zE5 ?_ | refine zE6 ?_ | refine zE7 ?_ | refine zE8 ?_) | (refine b_s (fun hb => ?_) (fun hb => ?_) <;> ((try simp only [hn1, hn2, hn3, hn4] at hb); first | (exfalso; omega) | skip)) | (refine t_gs (fun hb => ?_) (fun hb => ?_)) <;> ((try simp only [hn1, hn2] at hb); rw [hb]; try simp only [hn3, hn4] at hb)
            exact Q0
          | false =>
            rw [hpl, hd] at hfl
            have hpr : preB w = false := by simpa using hfl
            repeat' first | refine t_p rfl ?_ | refine t_sr ?_ | refine t_nil ?_ | refine t_seq ?_ | refine t_region ?_ | refine t_block ?_ | refine t_cond ?_ | refine b_t ?_ | refine b_f ?_ | refine t_skip ?_ | refine t_exit ?_ | refine t_ret ?_ | refine t_onN ?_ | refine t_onE ?_ | refine t_onR ?_ | refine t_onP ?_ | refine t_xN ?_ | refine t_xR ?_ | refine t_xP ?_ | refine t_xS ?_ | refine t_xO (by decide) ?_ | refine t_gt ?_ | refine t_gf rfl ?_ | refine t_wr ?_ | refine t_wn ?_ | refine t_wp ?_ | refine t_on rfl ?_ | refine t_pan rfl ?_ | refine t_mki rfl ?_ | refine t_tas rfl ?_ | refine t_def rfl ?_ | refine t_op rfl ?_ | refine t_k (k_p rfl rfl rfl rfl (hk) ?_) | refine t_k (k_p rfl rfl rfl rfl (hp) ?_) | refine t_kR (pf78 G _ _ _ _ _) rfl ?_ | refine t_kP (pf78 G _ _ _ _ _) ?_ | refine t_n0 rfl ?_ | refine t_gd rfl ?_ | ((first | refine zE1 ?_ | refine t_cl rfl ?_); (conv => arg 1; try simp only [go_sem, Nat.reduceEqDiff, reduceIte, Nat.reduceAdd, Nat.reduceLeDiff, Nat.reduceMul, Int.reduceEq, Int.reduceLT, Int.reduceLE, Int.reduceNeg, Int.reduceAdd, Int.reduceSub, Nat.reduceLT, Nat.reduceBEq, Nat.reduceSub, Nat.reducePow, Option.map_none, Option.isSome_none, Int.natCast_zero, rep, hat, hpl, hfd', hd, hpr, hcF]); first | refine zE3 ?_ | refine zE2 ?_ | refine zE4 ?_ | refine zE5 ?_ | refine zE6 ?_ | refine zE7 ?_ | refine zE8 ?_) | (refine b_s (fun hb => ?_) (fun hb => ?_) <;> ((try simp only [hn1, hn2, hn3, hn4] at hb); first | (exfalso; omega) | skip)) | (refine t_gs (fun hb => ?_) (fun hb => ?_)) <;> ((try simp only [hn1, hn2] at hb); rw [hb]; try simp only [hn3, hn4] at hb)
            exact Q0
  · have hpl : s.pl = false := by cases e : s.pl <;> simp [e] at hfl ⊢
    obtain ⟨s1, s2, s3⟩ := hsh hpl
    have hd : (w.toList == (⟨#[45]⟩ : ByteArray).toList) = false := by
      cases e : (w.toList == (⟨#[45]⟩ : ByteArray).toList) with
      | true => rw [e] at hfl; simp at hfl
      | false => rfl
    have hpr : preB w = true := by
      cases e : preB w with
      | true => rfl
      | false => rw [e] at hfl; simp at hfl
    rw [if_neg hfl] at hW
    cases hdd : (w.toList == (⟨#[45, 45]⟩ : ByteArray).toList) with
    | true =>
      rw [hdd, if_pos rfl] at hW
      subst hW
      repeat' first | refine t_p rfl ?_ | refine t_sr ?_ | refine t_nil ?_ | refine t_seq ?_ | refine t_region ?_ | refine t_block ?_ | refine t_cond ?_ | refine b_t ?_ | refine b_f ?_ | refine t_skip ?_ | refine t_exit ?_ | refine t_ret ?_ | refine t_onN ?_ | refine t_onE ?_ | refine t_onR ?_ | refine t_onP ?_ | refine t_xN ?_ | refine t_xR ?_ | refine t_xP ?_ | refine t_xS ?_ | refine t_xO (by decide) ?_ | refine t_gt ?_ | refine t_gf rfl ?_ | refine t_wr ?_ | refine t_wn ?_ | refine t_wp ?_ | refine t_on rfl ?_ | refine t_pan rfl ?_ | refine t_mki rfl ?_ | refine t_tas rfl ?_ | refine t_def rfl ?_ | refine t_op rfl ?_ | refine t_k (k_p rfl rfl rfl rfl (hp) ?_) | refine t_n0 rfl ?_ | refine t_gd rfl ?_ | ((first | refine zE1 ?_ | refine t_cl rfl ?_); (conv => arg 1; try simp only [go_sem, Nat.reduceEqDiff, reduceIte, Nat.reduceAdd, Nat.reduceLeDiff, Nat.reduceMul, Int.reduceEq, Int.reduceLT, Int.reduceLE, Int.reduceNeg, Int.reduceAdd, Int.reduceSub, Nat.reduceLT, Nat.reduceBEq, Nat.reduceSub, Nat.reducePow, Option.map_none, Option.isSome_none, Int.natCast_zero, rep, hat, hpl, hd, hpr, hdd]); first | refine zE3 ?_ | refine zE2 ?_ | refine zE4 ?_ | refine zE5 ?_ | refine zE6 ?_ | refine zE7 ?_ | refine zE8 ?_) | (refine b_s (fun hb => ?_) (fun hb => ?_) <;> ((try simp only [hn1, hn2, hn3, hn4] at hb); first | (exfalso; omega) | skip)) | (refine t_gs (fun hb => ?_) (fun hb => ?_)) <;> ((try simp only [hn1, hn2] at hb); rw [hb]; try simp only [hn3, hn4] at hb)
      refine ⟨?_, rfl, rfl, rfl⟩
      simp [pHeap, PS.cells, upd_upd]
    | false =>
      rw [hdd, if_neg (by simp)] at hW
      subst hW
      have h1 : 1 ≤ w.size := by
        by_cases h : (1 : Int) ≤ w.size
        · omega
        · simp [preB, h] at hpr
      have hb1 : bnds w.size (some (.sc (.int .i64 1))) none = some (1, w.size) := bnds_lo (k := 1) h1
      have hl := pf116 G (w.extract 1 w.size) (by simp [ByteArray.size_extract]; omega) L s h n hh
      generalize lettersF (w.extract 1 w.size).data.toList s = r at hl ⊢
      obtain ⟨b, s'⟩ := r
      cases b with
      | true =>
        have hl' : PfR (Cf G) 116 [.ptr 4 0, .sc (.string (w.extract 1 w.size))] h n (.tup []) (pHeap h L s') n := hl.mono fun p v h' n' ⟨e1, e2, e3, e4⟩ => ⟨e3, e4, e1, e2⟩
        repeat' first | refine t_p rfl ?_ | refine t_sr ?_ | refine t_nil ?_ | refine t_seq ?_ | refine t_region ?_ | refine t_block ?_ | refine t_cond ?_ | refine b_t ?_ | refine b_f ?_ | refine t_skip ?_ | refine t_exit ?_ | refine t_ret ?_ | refine t_onN ?_ | refine t_onE ?_ | refine t_onR ?_ | refine t_onP ?_ | refine t_xN ?_ | refine t_xR ?_ | refine t_xP ?_ | refine t_xS ?_ | refine t_xO (by decide) ?_ | refine t_gt ?_ | refine t_gf rfl ?_ | refine t_wr ?_ | refine t_wn ?_ | refine t_wp ?_ | refine t_on rfl ?_ | refine t_pan rfl ?_ | refine t_mki rfl ?_ | refine t_tas rfl ?_ | refine t_def rfl ?_ | refine t_op rfl ?_ | refine t_k (k_p rfl rfl rfl rfl (hp) ?_) | refine t_kR (hl') rfl ?_ | refine t_kP (hl') ?_ | refine t_n0 rfl ?_ | refine t_gd rfl ?_ | ((first | refine zE1 ?_ | refine t_cl rfl ?_); (conv => arg 1; try simp only [go_sem, Nat.reduceEqDiff, reduceIte, Nat.reduceAdd, Nat.reduceLeDiff, Nat.reduceMul, Int.reduceEq, Int.reduceLT, Int.reduceLE, Int.reduceNeg, Int.reduceAdd, Int.reduceSub, Nat.reduceLT, Nat.reduceBEq, Nat.reduceSub, Nat.reducePow, Option.map_none, Option.isSome_none, Int.natCast_zero, rep, hat, hpl, hd, hpr, hdd, s1, s2, s3, hb1]); first | refine zE3 ?_ | refine zE2 ?_ | refine zE4 ?_ | refine zE5 ?_ | refine zE6 ?_ | refine zE7 ?_ | refine zE8 ?_) | (refine b_s (fun hb => ?_) (fun hb => ?_) <;> ((try simp only [hn1, hn2, hn3, hn4] at hb); first | (exfalso; omega) | skip)) | (refine t_gs (fun hb => ?_) (fun hb => ?_)) <;> ((try simp only [hn1, hn2] at hb); rw [hb]; try simp only [hn3, hn4] at hb)
        exact ⟨rfl, rfl, rfl, rfl⟩
      | false =>
        have hl' : PfP (Cf G) 116 [.ptr 4 0, .sc (.string (w.extract 1 w.size))] h n (.ifc 83 (.agg [.sc (.int .i64 s.pos), .sc (.int .i64 271)])) (pHeap h L s') n := hl.mono fun p v h' n' ⟨e1, e2, e3, e4⟩ => ⟨e3, e4, e1, e2⟩
        repeat' first | refine t_p rfl ?_ | refine t_sr ?_ | refine t_nil ?_ | refine t_seq ?_ | refine t_region ?_ | refine t_block ?_ | refine t_cond ?_ | refine b_t ?_ | refine b_f ?_ | refine t_skip ?_ | refine t_exit ?_ | refine t_ret ?_ | refine t_onN ?_ | refine t_onE ?_ | refine t_onR ?_ | refine t_onP ?_ | refine t_xN ?_ | refine t_xR ?_ | refine t_xP ?_ | refine t_xS ?_ | refine t_xO (by decide) ?_ | refine t_gt ?_ | refine t_gf rfl ?_ | refine t_wr ?_ | refine t_wn ?_ | refine t_wp ?_ | refine t_on rfl ?_ | refine t_pan rfl ?_ | refine t_mki rfl ?_ | refine t_tas rfl ?_ | refine t_def rfl ?_ | refine t_op rfl ?_ | refine t_k (k_p rfl rfl rfl rfl (hp) ?_) | refine t_kR (hl') rfl ?_ | refine t_kP (hl') ?_ | refine t_n0 rfl ?_ | refine t_gd rfl ?_ | ((first | refine zE1 ?_ | refine t_cl rfl ?_); (conv => arg 1; try simp only [go_sem, Nat.reduceEqDiff, reduceIte, Nat.reduceAdd, Nat.reduceLeDiff, Nat.reduceMul, Int.reduceEq, Int.reduceLT, Int.reduceLE, Int.reduceNeg, Int.reduceAdd, Int.reduceSub, Nat.reduceLT, Nat.reduceBEq, Nat.reduceSub, Nat.reducePow, Option.map_none, Option.isSome_none, Int.natCast_zero, rep, hat, hpl, hd, hpr, hdd, s1, s2, s3, hb1]); first | refine zE3 ?_ | refine zE2 ?_ | refine zE4 ?_ | refine zE5 ?_ | refine zE6 ?_ | refine zE7 ?_ | refine zE8 ?_) | (refine b_s (fun hb => ?_) (fun hb => ?_) <;> ((try simp only [hn1, hn2, hn3, hn4] at hb); first | (exfalso; omega) | skip)) | (refine t_gs (fun hb => ?_) (fun hb => ?_)) <;> ((try simp only [hn1, hn2] at hb); rw [hb]; try simp only [hn3, hn4] at hb)
        exact ⟨rfl, rfl, rfl, rfl⟩
end Go.Proofs.Bv
namespace Go.Proofs.Bv
open Go
theorem ok87 : codeOk 38 (Tryz.f87.body.getD .skip) = true := by kernel_rfl
theorem ok47 : codeOk 23 (Tryz.f47.body.getD .skip) = true := by kernel_rfl
theorem ok40 : codeOk 59 (Tryz.f40.body.getD .skip) = true := by kernel_rfl
set_option maxRecDepth 100000 in
theorem pc87 (G : Nat → Option (List AV)) : Pc (Cf G) 87 [.psl [] 0] (.sc (.int .i64 0)) := by
  refine Pc_of (Gf_enter (C := Cf G) Tryz.func87 rfl ok87 (Nat.le_of_ble_eq_true rfl) ?_)
  simp only [Tryz.f87, Option.getD_some]
  repeat' first | refine w_op rfl rfl ?_ | refine x_p rfl ?_ | refine w_sr ?_ | refine st_nil ?_ | refine w_seq ?_ | refine st_region ?_ | refine st_block ?_ | refine w_cond ?_ | refine b_t ?_ | refine b_f ?_ | refine st_skip ?_ | refine st_exit ?_ | refine st_ret ?_ | refine st_onNormN ?_ | refine st_onNormE ?_ | refine st_onNormR ?_ | refine st_onExitN ?_ | refine st_onExitR ?_ | refine st_onExitS ?_ | refine st_onExitO (by decide) ?_ | refine g_t ?_ | refine g_f rfl ?_ | refine o_op rfl ?_ | refine w_wr ?_ | refine w_wn ?_ | refine d_c rfl ?_ | refine d_on rfl ?_ | refine d_op rfl ?_ | refine d_y ?_ | refine d_gd rfl ?_ | refine d_t ?_ | refine d_f ?_ | refine d_nil ?_ | refine w_dr rfl ?_ | refine d_q ?_ | refine w_gd rfl ?_ | ((first | refine zE1 ?_); (conv => arg 1; try simp only [go_sem, Nat.reduceEqDiff, reduceIte, Nat.reduceAdd, Nat.reduceLeDiff, Nat.reduceMul, Int.reduceEq, Int.reduceLT, Int.reduceLE, Int.reduceNeg, Int.reduceAdd, Int.reduceSub, Nat.reduceLT, Nat.reduceBEq, Nat.reduceSub, Nat.reducePow, Int.natCast_zero, Option.map_none, Option.isSome_none]); first | refine zE3 ?_ | refine zE2 ?_ | refine zE4 ?_ | refine zE5 ?_ | refine zE6 ?_ | refine zE7 ?_ | refine zE8 ?_) | (refine w_u false ?_; (conv => arg 1; reduce); refine zR1 ?_) | (refine b_s (fun hb => ?_) (fun hb => ?_) <;> ((try simp only [hn1, hn2, hn3, hn4] at hb); first | (exfalso; omega) | skip)) | (first | refine g_s (fun hb => ?_) (fun hb => ?_) | refine d_s (fun hb => ?_) (fun hb => ?_)) <;> ((try simp only [hn1, hn2] at hb); rw [hb]; try simp only [hn3, hn4] at hb)
  refine Gc_loop_inv (fun _ s => s.h = noHeap ∧ s.n = 0 ∧ s.T 13 = .sc (.int .i64 0) ∧ s.T 14 = .sc (.int .i64 0)) ?_ 0 _ ⟨rfl, rfl, rfl, rfl⟩
  rintro m ⟨T, h, n⟩ ⟨rfl, rfl, h13, h14⟩
  simp only at h13 h14
  repeat' first | refine w_op rfl rfl ?_ | refine x_p rfl ?_ | refine w_sr ?_ | refine st_nil ?_ | refine w_seq ?_ | refine st_region ?_ | refine st_block ?_ | refine w_cond ?_ | refine b_t ?_ | refine b_f ?_ | refine st_skip ?_ | refine st_exit ?_ | refine st_ret ?_ | refine st_onNormN ?_ | refine st_onNormE ?_ | refine st_onNormR ?_ | refine st_onExitN ?_ | refine st_onExitR ?_ | refine st_onExitS ?_ | refine st_onExitO (by decide) ?_ | refine g_t ?_ | refine g_f rfl ?_ | refine o_op rfl ?_ | refine w_wr ?_ | refine w_wn ?_ | refine d_c rfl ?_ | refine d_on rfl ?_ | refine d_op rfl ?_ | refine d_y ?_ | refine d_gd rfl ?_ | refine d_t ?_ | refine d_f ?_ | refine d_nil ?_ | refine w_dr rfl ?_ | refine d_q ?_ | refine w_gd rfl ?_ | ((first | refine zE1 ?_); (conv => arg 1; try simp only [go_sem, Nat.reduceEqDiff, reduceIte, Nat.reduceAdd, Nat.reduceLeDiff, Nat.reduceMul, Int.reduceEq, Int.reduceLT, Int.reduceLE, Int.reduceNeg, Int.reduceAdd, Int.reduceSub, Nat.reduceLT, Nat.reduceBEq, Nat.reduceSub, Nat.reducePow, h13, h14, Int.natCast_zero, Option.map_none, Option.isSome_none]); first | refine zE3 ?_ | refine zE2 ?_ | refine zE4 ?_ | refine zE5 ?_ | refine zE6 ?_ | refine zE7 ?_ | refine zE8 ?_) | (refine w_u false ?_; (conv => arg 1; reduce); refine zR1 ?_) | (refine b_s (fun hb => ?_) (fun hb => ?_) <;> ((try simp only [hn1, hn2, hn3, hn4] at hb); first | (exfalso; omega) | skip)) | (first | refine g_s (fun hb => ?_) (fun hb => ?_) | refine d_s (fun hb => ?_) (fun hb => ?_)) <;> ((try simp only [hn1, hn2] at hb); rw [hb]; try simp only [hn3, hn4] at hb)
  simp only [one1, frz_sc, Option.map_some]
def optErr (asc : Bool) (ind : Int) : Int := if ind < 0 then 4 else if 8 < ind then 4 else if asc && decide (0 < ind) then 9 else 0
set_option maxRecDepth 100000 in
theorem pc47 (G : Nat → Option (List AV)) (b1 b2 b3 b4 b5 : Bool) (ind : Int) : Pc (Cf G) 47 [.agg [.sc (.bool b1), .sc (.bool b2), .sc (.bool b3), .sc (.bool b4), .sc (.bool b5), .sc (.int .i64 ind), .psl [] 0]] (.sc (.int .i64 (optErr b5 ind))) := by
  refine Pc_of (Gf_enter (C := Cf G) Tryz.func47 rfl ok47 (Nat.le_of_ble_eq_true rfl) ?_)
  simp only [Tryz.f47, Option.getD_some]
  have hc := pc87 G
  unfold optErr
  by_cases h1 : ind < 0
  · repeat' first | refine w_op rfl rfl ?_ | refine x_p rfl ?_ | refine w_sr ?_ | refine st_nil ?_ | refine w_seq ?_ | refine st_region ?_ | refine st_block ?_ | refine w_cond ?_ | refine b_t ?_ | refine b_f ?_ | refine st_skip ?_ | refine st_exit ?_ | refine st_ret ?_ | refine st_onNormN ?_ | refine st_onNormE ?_ | refine st_onNormR ?_ | refine st_onExitN ?_ | refine st_onExitR ?_ | refine st_onExitS ?_ | refine st_onExitO (by decide) ?_ | refine g_t ?_ | refine g_f rfl ?_ | refine o_op rfl ?_ | refine w_wr ?_ | refine w_wn ?_ | refine d_c rfl ?_ | refine d_on rfl ?_ | refine d_op rfl ?_ | refine d_y ?_ | refine d_gd rfl ?_ | refine d_t ?_ | refine d_f ?_ | refine d_nil ?_ | refine w_dr rfl ?_ | refine d_q ?_ | refine n_0 rfl ?_ | refine d_n ?_ | refine k_p rfl rfl rfl rfl (hc) ?_ | refine w_gd rfl ?_ | ((first | refine zE1 ?_ | refine w_cl rfl rfl ?_ | refine o_cl rfl ?_ | refine d_cl rfl ?_); (conv => arg 1; try simp only [go_sem, Nat.reduceEqDiff, reduceIte, Nat.reduceAdd, Nat.reduceLeDiff, Nat.reduceMul, Int.reduceEq, Int.reduceLT, Int.reduceLE, Int.reduceNeg, Int.reduceAdd, Int.reduceSub, Nat.reduceLT, Nat.reduceBEq, Nat.reduceSub, Nat.reducePow, h1, Option.map_none, Option.isSome_none]); first | refine zE3 ?_ | refine zE2 ?_ | refine zE4 ?_ | refine zE5 ?_ | refine zE6 ?_ | refine zE7 ?_ | refine zE8 ?_) | (refine w_u false ?_; (conv => arg 1; reduce); refine zR1 ?_) | (refine b_s (fun hb => ?_) (fun hb => ?_) <;> ((try simp only [hn1, hn2, hn3, hn4] at hb); first | (exfalso; omega) | skip)) | (first | refine g_s (fun hb => ?_) (fun hb => ?_) | refine d_s (fun hb => ?_) (fun hb => ?_)) <;> ((try simp only [hn1, hn2] at hb); rw [hb]; try simp only [hn3, hn4] at hb)
    all_goals simp [one1, frz_sc, *]
  · by_cases h2 : 8 < ind
    · repeat' first | refine w_op rfl rfl ?_ | refine x_p rfl ?_ | refine w_sr ?_ | refine st_nil ?_ | refine w_seq ?_ | refine st_region ?_ | refine st_block ?_ | refine w_cond ?_ | refine b_t ?_ | refine b_f ?_ | refine st_skip ?_ | refine st_exit ?_ | refine st_ret ?_ | refine st_onNormN ?_ | refine st_onNormE ?_ | refine st_onNormR ?_ | refine st_onExitN ?_ | refine st_onExitR ?_ | refine st_onExitS ?_ | refine st_onExitO (by decide) ?_ | refine g_t ?_ | refine g_f rfl ?_ | refine o_op rfl ?_ | refine w_wr ?_ | refine w_wn ?_ | refine d_c rfl ?_ | refine d_on rfl ?_ | refine d_op rfl ?_ | refine d_y ?_ | refine d_gd rfl ?_ | refine d_t ?_ | refine d_f ?_ | refine d_nil ?_ | refine w_dr rfl ?_ | refine d_q ?_ | refine n_0 rfl ?_ | refine d_n ?_ | refine k_p rfl rfl rfl rfl (hc) ?_ | refine w_gd rfl ?_ | ((first | refine zE1 ?_ | refine w_cl rfl rfl ?_ | refine o_cl rfl ?_ | refine d_cl rfl ?_); (conv => arg 1; try simp only [go_sem, Nat.reduceEqDiff, reduceIte, Nat.reduceAdd, Nat.reduceLeDiff, Nat.reduceMul, Int.reduceEq, Int.reduceLT, Int.reduceLE, Int.reduceNeg, Int.reduceAdd, Int.reduceSub, Nat.reduceLT, Nat.reduceBEq, Nat.reduceSub, Nat.reducePow, h1, h2, Option.map_none, Option.isSome_none]); first | refine zE3 ?_ | refine zE2 ?_ | refine zE4 ?_ | refine zE5 ?_ | refine zE6 ?_ | refine zE7 ?_ | refine zE8 ?_) | (refine w_u false ?_; (conv => arg 1; reduce); refine zR1 ?_) | (refine b_s (fun hb => ?_) (fun hb => ?_) <;> ((try simp only [hn1, hn2, hn3, hn4] at hb); first | (exfalso; omega) | skip)) | (first | refine g_s (fun hb => ?_) (fun hb => ?_) | refine d_s (fun hb => ?_) (fun hb => ?_)) <;> ((try simp only [hn1, hn2] at hb); rw [hb]; try simp only [hn3, hn4] at hb)
      all_goals simp [one1, frz_sc, *]
    · by_cases h3 : 0 < ind
      · cases b5 with
        | true =>
          repeat' first | refine w_op rfl rfl ?_ | refine x_p rfl ?_ | refine w_sr ?_ | refine st_nil ?_ | refine w_seq ?_ | refine st_region ?_ | refine st_block ?_ | refine w_cond ?_ | refine b_t ?_ | refine b_f ?_ | refine st_skip ?_ | refine st_exit ?_ | refine st_ret ?_ | refine st_onNormN ?_ | refine st_onNormE ?_ | refine st_onNormR ?_ | refine st_onExitN ?_ | refine st_onExitR ?_ | refine st_onExitS ?_ | refine st_onExitO (by decide) ?_ | refine g_t ?_ | refine g_f rfl ?_ | refine o_op rfl ?_ | refine w_wr ?_ | refine w_wn ?_ | refine d_c rfl ?_ | refine d_on rfl ?_ | refine d_op rfl ?_ | refine d_y ?_ | refine d_gd rfl ?_ | refine d_t ?_ | refine d_f ?_ | refine d_nil ?_ | refine w_dr rfl ?_ | refine d_q ?_ | refine n_0 rfl ?_ | refine d_n ?_ | refine k_p rfl rfl rfl rfl (hc) ?_ | refine w_gd rfl ?_ | ((first | refine zE1 ?_ | refine w_cl rfl rfl ?_ | refine o_cl rfl ?_ | refine d_cl rfl ?_); (conv => arg 1; try simp only [go_sem, Nat.reduceEqDiff, reduceIte, Nat.reduceAdd, Nat.reduceLeDiff, Nat.reduceMul, Int.reduceEq, Int.reduceLT, Int.reduceLE, Int.reduceNeg, Int.reduceAdd, Int.reduceSub, Nat.reduceLT, Nat.reduceBEq, Nat.reduceSub, Nat.reducePow, h1, h2, h3, Option.map_none, Option.isSome_none]); first | refine zE3 ?_ | refine zE2 ?_ | refine zE4 ?_ | refine zE5 ?_ | refine zE6 ?_ | refine zE7 ?_ | refine zE8 ?_) | (refine w_u false ?_; (conv => arg 1; reduce); refine zR1 ?_) | (refine b_s (fun hb => ?_) (fun hb => ?_) <;> ((try simp only [hn1, hn2, hn3, hn4] at hb); first | (exfalso; omega) | skip)) | (first | refine g_s (fun hb => ?_) (fun hb => ?_) | refine d_s (fun hb => ?_) (fun hb => ?_)) <;> ((try simp only [hn1, hn2] at hb); rw [hb]; try simp only [hn3, hn4] at hb)
          all_goals simp [one1, frz_sc, *]
        | false =>
          repeat' first | refine w_op rfl rfl ?_ | refine x_p rfl ?_ | refine w_sr ?_ | refine st_nil ?_ | refine w_seq ?_ | refine st_region ?_ | refine st_block ?_ | refine w_cond ?_ | refine b_t ?_ | refine b_f ?_ | refine st_skip ?_ | refine st_exit ?_ | refine st_ret ?_ | refine st_onNormN ?_ | refine st_onNormE ?_ | refine st_onNormR ?_ | refine st_onExitN ?_ | refine st_onExitR ?_ | refine st_onExitS ?_ | refine st_onExitO (by decide) ?_ | refine g_t ?_ | refine g_f rfl ?_ | refine o_op rfl ?_ | refine w_wr ?_ | refine w_wn ?_ | refine d_c rfl ?_ | refine d_on rfl ?_ | refine d_op rfl ?_ | refine d_y ?_ | refine d_gd rfl ?_ | refine d_t ?_ | refine d_f ?_ | refine d_nil ?_ | refine w_dr rfl ?_ | refine d_q ?_ | refine n_0 rfl ?_ | refine d_n ?_ | refine k_p rfl rfl rfl rfl (hc) ?_ | refine w_gd rfl ?_ | ((first | refine zE1 ?_ | refine w_cl rfl rfl ?_ | refine o_cl rfl ?_ | refine d_cl rfl ?_); (conv => arg 1; try simp only [go_sem, Nat.reduceEqDiff, reduceIte, Nat.reduceAdd, Nat.reduceLeDiff, Nat.reduceMul, Int.reduceEq, Int.reduceLT, Int.reduceLE, Int.reduceNeg, Int.reduceAdd, Int.reduceSub, Nat.reduceLT, Nat.reduceBEq, Nat.reduceSub, Nat.reducePow, h1, h2, h3, Option.map_none, Option.isSome_none]); first | refine zE3 ?_ | refine zE2 ?_ | refine zE4 ?_ | refine zE5 ?_ | refine zE6 ?_ | refine zE7 ?_ | refine zE8 ?_) | (refine w_u false ?_; (conv => arg 1; reduce); refine zR1 ?_) | (refine b_s (fun hb => ?_) (fun hb => ?_) <;> ((try simp only [hn1, hn2, hn3, hn4] at hb); first | (exfalso; omega) | skip)) | (first | refine g_s (fun hb => ?_) (fun hb => ?_) | refine d_s (fun hb => ?_) (fun hb => ?_)) <;> ((try simp only [hn1, hn2] at hb); rw [hb]; try simp only [hn3, hn4] at hb)
          all_goals simp [one1, frz_sc, *]
      · repeat' first | refine w_op rfl rfl ?_ | refine x_p rfl ?_ | refine w_sr ?_ | refine st_nil ?_ | refine w_seq ?_ | refine st_region ?_ | refine st_block ?_ | refine w_cond ?_ | refine b_t ?_ | refine b_f ?_ | refine st_skip ?_ | refine st_exit ?_ | refine st_ret ?_ | refine st_onNormN ?_ | refine st_onNormE ?_ | refine st_onNormR ?_ | refine st_onExitN ?_ | refine st_onExitR ?_ | refine st_onExitS ?_ | refine st_onExitO (by decide) ?_ | refine g_t ?_ | refine g_f rfl ?_ | refine o_op rfl ?_ | refine w_wr ?_ | refine w_wn ?_ | refine d_c rfl ?_ | refine d_on rfl ?_ | refine d_op rfl ?_ | refine d_y ?_ | refine d_gd rfl ?_ | refine d_t ?_ | refine d_f ?_ | refine d_nil ?_ | refine w_dr rfl ?_ | refine d_q ?_ | refine n_0 rfl ?_ | refine d_n ?_ | refine k_p rfl rfl rfl rfl (hc) ?_ | refine w_gd rfl ?_ | ((first | refine zE1 ?_ | refine w_cl rfl rfl ?_ | refine o_cl rfl ?_ | refine d_cl rfl ?_); (conv => arg 1; try simp only [go_sem, Nat.reduceEqDiff, reduceIte, Nat.reduceAdd, Nat.reduceLeDiff, Nat.reduceMul, Int.reduceEq, Int.reduceLT, Int.reduceLE, Int.reduceNeg, Int.reduceAdd, Int.reduceSub, Nat.reduceLT, Nat.reduceBEq, Nat.reduceSub, Nat.reducePow, h1, h2, h3, Option.map_none, Option.isSome_none]); first | refine zE3 ?_ | refine zE2 ?_ | refine zE4 ?_ | refine zE5 ?_ | refine zE6 ?_ | refine zE7 ?_ | refine zE8 ?_) | (refine w_u false ?_; (conv => arg 1; reduce); refine zR1 ?_) | (refine b_s (fun hb => ?_) (fun hb => ?_) <;> ((try simp only [hn1, hn2, hn3, hn4] at hb); first | (exfalso; omega) | skip)) | (first | refine g_s (fun hb => ?_) (fun hb => ?_) | refine d_s (fun hb => ?_) (fun hb => ?_)) <;> ((try simp only [hn1, hn2] at hb); rw [hb]; try simp only [hn3, hn4] at hb)
        all_goals simp [one1, frz_sc, *]
def wordG (h : Heap) (n : Nat) (L : AV) (r : Option (Nat × Int) × PS) (p : Bool) (v : AV) (h' : Heap) (n' : Nat) : Prop :=
  n ≤ n' ∧ h' 4 = some (.cells (r.2.cells L) 0 false) ∧ (∀ m, m < n → m ≠ 4 → h' m = h m) ∧ match r.1 with
    | none => p = false ∧ v = .tup []
    | some (a, e) => p = true ∧ v = .ifc 83 (.agg [.sc (.int .i64 a), .sc (.int .i64 e)])
theorem wordQ.gen {h : Heap} {n : Nat} {L : AV} {r : Option (Nat × Int) × PS} {p : Bool} {v : AV} {h' : Heap} {n' : Nat} (hw : wordQ h n L r p v h' n') : wordG h n L r p v h' n' := by
  obtain ⟨e1, e2, e3⟩ := hw
  refine ⟨by omega, by rw [e1]; exact pHeap_at _ _ _, fun m _ hm => ?_, e3⟩
  rw [e1]
  exact upd_ne _ _ hm
def runF (W : ByteArray → PS → Option (Nat × Int) × PS) (l : List ByteArray) : Nat → PS → Option (Nat × Int) × PS
  | 0, s => (none, s)
  | k + 1, s =>
    match l[s.pos]? with
    | none => (none, s)
    | some w =>
      match W w s with
      | (some e, s') => (some e, s')
      | (none, s') => runF W l k { s' with pos := s'.pos + 1 }
def allF (W : ByteArray → PS → Option (Nat × Int) × PS) (l : List ByteArray) (s : PS) : Option (Nat × Int) × PS :=
  match runF W l l.length s with
  | (some e, s') => (some e, s')
  | (none, s') =>
    if s'.fd = false then (some (l.length, 8), s')
    else if optErr s'.asc s'.ind = 0 then (none, s')
    else (some (l.length, optErr s'.asc s'.ind), s')
set_option maxRecDepth 100000 in
set_option maxHeartbeats 2000000 in
theorem pf40 (G : Nat → Option (List AV)) (l : List ByteArray) (hlen : l.length ≤ 1000) (W : ByteArray → PS → Option (Nat × Int) × PS) (J : PS → Prop)
    (hW : ∀ (w : ByteArray) (s : PS) (h : Heap) (n : Nat), l[s.pos]? = some w → J s → s.nm = .nilS → 5 ≤ n → h 4 = some (.cells (s.cells (.psl (strs l) l.length)) 0 false) →
      Pf (Cf G) 77 [.ptr 4 0, .sc (.string w)] h n (wordG h n (.psl (strs l) l.length) (W w s)) ∧ s.pos ≤ (W w s).2.pos ∧ (W w s).2.pos ≤ l.length ∧ (W w s).2.nm = .nilS ∧ ((W w s).1 = none → J { (W w s).2 with pos := (W w s).2.pos + 1 }))
    (s0 : PS) (hJ0 : J s0) (hp0 : s0.pos = 0) (hn0 : s0.nm = .nilS) (h0 : Heap) (n0 : Nat) (hn5 : 5 ≤ n0) (hh0 : h0 4 = some (.cells (s0.cells (.psl (strs l) l.length)) 0 false)) :
    Pf (Cf G) 40 [.ptr 4 0] h0 n0 (wordG h0 n0 (.psl (strs l) l.length) (allF W l s0)) := by
  refine pf_enter (C := Cf G) Tryz.func40 rfl ok40 (by rfl) ?_
  simp only [Tryz.f40, Option.getD_some]
  refine t_seq ?_
  refine t_block ?_
  refine t_loop (fun k st D => D = none ∧ ∃ (s : PS) (j : Nat), 5 ≤ st.n ∧ n0 ≤ st.n ∧ st.h 4 = some (.cells (s.cells (.psl (strs l) l.length)) 0 false) ∧ (∀ m, m < n0 → m ≠ 4 → st.h m = h0 m) ∧ st.T 0 = .ptr 4 0 ∧
      J s ∧ s.nm = .nilS ∧ s.pos ≤ l.length + 1 ∧ k = l.length + 1 - s.pos ∧ l.length ≤ j + s.pos ∧ runF W l j s = runF W l l.length s0) ?_ (l.length + 1) _ _ ?_
  · rintro k ⟨T, h, n⟩ D ⟨rfl, s, j, h5, hn, hh, hfr, hT, hJ, hnm, hpos, hk, hj, hrun⟩
    simp only at h5 hn hh hfr hT
    have hat := hh
    simp only [PS.cells] at hat
    refine t_seq ?_
    refine t_seq ?_
    refine t_dr ?_
    by_cases hlt : s.pos < l.length
    · have hget : (strs l)[s.pos * 1]? = some (.sc (.string l[s.pos])) := by simp [strs, hlt]
      have hw : l[s.pos]? = some l[s.pos] := List.getElem?_eq_getElem hlt
      obtain ⟨hc, hc1, hc2, hc3, hc4⟩ := hW l[s.pos] s h n hw hJ hnm h5 hh
      have hlt' : (s.pos < l.length) = True := eq_true hlt
      repeat' first | refine w_op rfl rfl ?_ | refine x_p rfl ?_ | refine w_sr ?_ | refine st_nil ?_ | refine w_seq ?_ | refine st_region ?_ | refine st_block ?_ | refine w_cond ?_ | refine b_t ?_ | refine b_f ?_ | refine st_skip ?_ | refine st_exit ?_ | refine st_ret ?_ | refine st_onNormN ?_ | refine st_onNormE ?_ | refine st_onNormR ?_ | refine st_onExitN ?_ | refine st_onExitR ?_ | refine st_onExitS ?_ | refine st_onExitO (by decide) ?_ | refine g_t ?_ | refine g_f rfl ?_ | refine o_op rfl ?_ | refine w_wr ?_ | refine w_wn ?_ | refine d_c rfl ?_ | refine d_on rfl ?_ | refine d_op rfl ?_ | refine d_y ?_ | refine d_gd rfl ?_ | refine d_t ?_ | refine d_f ?_ | refine d_nil ?_ | refine w_dr rfl ?_ | refine d_q ?_ | refine w_gd rfl ?_ | ((first | refine zE1 ?_); (conv => arg 1; try simp only [go_sem, Nat.reduceEqDiff, reduceIte, Nat.reduceAdd, Nat.reduceLeDiff, Nat.reduceMul, Int.reduceEq, Int.reduceLT, Int.reduceLE, Int.reduceNeg, Int.reduceAdd, Int.reduceSub, Nat.reduceLT, Nat.reduceBEq, Nat.reduceSub, Nat.reducePow, hT, hat, strs_len, hlt']); first | refine zE3 ?_ | refine zE2 ?_ | refine zE4 ?_ | refine zE5 ?_ | refine zE6 ?_ | refine zE7 ?_ | refine zE8 ?_) | (refine w_u false ?_; (conv => arg 1; reduce); refine zR1 ?_) | (refine b_s (fun hb => ?_) (fun hb => ?_) <;> ((try simp only [hn1, hn2, hn3, hn4] at hb); first | (exfalso; omega) | skip)) | (first | refine g_s (fun hb => ?_) (fun hb => ?_) | refine d_s (fun hb => ?_) (fun hb => ?_)) <;> ((try simp only [hn1, hn2] at hb); rw [hb]; try simp only [hn3, hn4] at hb)
      repeat' first | refine t_p rfl ?_ | refine t_sr ?_ | refine t_nil ?_ | refine t_seq ?_ | refine t_region ?_ | refine t_block ?_ | refine t_cond ?_ | refine b_t ?_ | refine b_f ?_ | refine t_skip ?_ | refine t_exit ?_ | refine t_ret ?_ | refine t_onN ?_ | refine t_onE ?_ | refine t_onR ?_ | refine t_onP ?_ | refine t_xN ?_ | refine t_xR ?_ | refine t_xP ?_ | refine t_xS ?_ | refine t_xO (by decide) ?_ | refine t_gt ?_ | refine t_gf rfl ?_ | refine t_wr ?_ | refine t_wn ?_ | refine t_wp ?_ | refine t_on rfl ?_ | refine t_pan rfl ?_ | refine t_mki rfl ?_ | refine t_tas rfl ?_ | refine t_def rfl ?_ | refine t_op rfl ?_ | refine t_gd rfl ?_ | ((first | refine zE1 ?_); (conv => arg 1; try simp only [go_sem, Nat.reduceEqDiff, reduceIte, Nat.reduceAdd, Nat.reduceLeDiff, Nat.reduceMul, Int.reduceEq, Int.reduceLT, Int.reduceLE, Int.reduceNeg, Int.reduceAdd, Int.reduceSub, Nat.reduceLT, Nat.reduceBEq, Nat.reduceSub, Nat.reducePow, Option.map_none, Option.isSome_none, Int.natCast_zero, rep, hT, hat, strs_len, hlt']); first | refine zE3 ?_ | refine zE2 ?_ | refine zE4 ?_ | refine zE5 ?_ | refine zE6 ?_ | refine zE7 ?_ | refine zE8 ?_) | (refine b_s (fun hb => ?_) (fun hb => ?_) <;> ((try simp only [hn1, hn2, hn3, hn4] at hb); first | (exfalso; omega) | skip)) | (refine t_gs (fun hb => ?_) (fun hb => ?_)) <;> ((try simp only [hn1, hn2] at hb); rw [hb]; try simp only [hn3, hn4] at hb)
      refine t_drl rfl rfl ?_
      simp only [List.pop_toArray, List.dropLast_cons_cons, List.dropLast_singleton]
      repeat' first | refine w_op rfl rfl ?_ | refine x_p rfl ?_ | refine w_sr ?_ | refine st_nil ?_ | refine w_seq ?_ | refine st_region ?_ | refine st_block ?_ | refine w_cond ?_ | refine b_t ?_ | refine b_f ?_ | refine st_skip ?_ | refine st_exit ?_ | refine st_ret ?_ | refine st_onNormN ?_ | refine st_onNormE ?_ | refine st_onNormR ?_ | refine st_onExitN ?_ | refine st_onExitR ?_ | refine st_onExitS ?_ | refine st_onExitO (by decide) ?_ | refine g_t ?_ | refine g_f rfl ?_ | refine o_op rfl ?_ | refine w_wr ?_ | refine w_wn ?_ | refine d_c rfl ?_ | refine d_on rfl ?_ | refine d_op rfl ?_ | refine d_y ?_ | refine d_gd rfl ?_ | refine d_t ?_ | refine d_f ?_ | refine d_nil ?_ | refine w_dr rfl ?_ | refine d_q ?_ | refine w_gd rfl ?_ | ((first | refine zE1 ?_); (conv => arg 1; try simp only [go_sem, Nat.reduceEqDiff, reduceIte, Nat.reduceAdd, Nat.reduceLeDiff, Nat.reduceMul, Int.reduceEq, Int.reduceLT, Int.reduceLE, Int.reduceNeg, Int.reduceAdd, Int.reduceSub, Nat.reduceLT, Nat.reduceBEq, Nat.reduceSub, Nat.reducePow, hT, hat, strs_len, hlt', hget]); first | refine zE3 ?_ | refine zE2 ?_ | refine zE4 ?_ | refine zE5 ?_ | refine zE6 ?_ | refine zE7 ?_ | refine zE8 ?_) | (refine w_u false ?_; (conv => arg 1; reduce); refine zR1 ?_) | (refine b_s (fun hb => ?_) (fun hb => ?_) <;> ((try simp only [hn1, hn2, hn3, hn4] at hb); first | (exfalso; omega) | skip)) | (first | refine g_s (fun hb => ?_) (fun hb => ?_) | refine d_s (fun hb => ?_) (fun hb => ?_)) <;> ((try simp only [hn1, hn2] at hb); rw [hb]; try simp only [hn3, hn4] at hb)
      refine dl_n ?_
      repeat' first | refine t_p rfl ?_ | refine t_sr ?_ | refine t_nil ?_ | refine t_seq ?_ | refine t_region ?_ | refine t_block ?_ | refine t_cond ?_ | refine b_t ?_ | refine b_f ?_ | refine t_skip ?_ | refine t_exit ?_ | refine t_ret ?_ | refine t_onN ?_ | refine t_onE ?_ | refine t_onR ?_ | refine t_onP ?_ | refine t_xN ?_ | refine t_xR ?_ | refine t_xP ?_ | refine t_xS ?_ | refine t_xO (by decide) ?_ | refine t_gt ?_ | refine t_gf rfl ?_ | refine t_wr ?_ | refine t_wn ?_ | refine t_wp ?_ | refine t_on rfl ?_ | refine t_pan rfl ?_ | refine t_mki rfl ?_ | refine t_tas rfl ?_ | refine t_def rfl ?_ | refine t_op rfl ?_ | refine t_k (k_p rfl rfl rfl rfl (hlt) ?_) | refine t_n0 rfl ?_ | refine t_gd rfl ?_ | ((first | refine zE1 ?_ | refine t_cl rfl ?_); (conv => arg 1; try simp only [go_sem, Nat.reduceEqDiff, reduceIte, Nat.reduceAdd, Nat.reduceLeDiff, Nat.reduceMul, Int.reduceEq, Int.reduceLT, Int.reduceLE, Int.reduceNeg, Int.reduceAdd, Int.reduceSub, Nat.reduceLT, Nat.reduceBEq, Nat.reduceSub, Nat.reducePow, Option.map_none, Option.isSome_none, Int.natCast_zero, rep, hT, hat, strs_len, hlt', hget]); first | refine zE3 ?_ | refine zE2 ?_ | refine zE4 ?_ | refine zE5 ?_ | refine zE6 ?_ | refine zE7 ?_ | refine zE8 ?_) | (refine b_s (fun hb => ?_) (fun hb => ?_) <;> ((try simp only [hn1, hn2, hn3, hn4] at hb); first | (exfalso; omega) | skip)) | (refine t_gs (fun hb => ?_) (fun hb => ?_)) <;> ((try simp only [hn1, hn2] at hb); rw [hb]; try simp only [hn3, hn4] at hb)
      obtain ⟨j, rfl⟩ : ∃ j', j = j' + 1 := ⟨j - 1, by omega⟩
      rw [runF, hw] at hrun
      simp only at hrun
      generalize W l[s.pos] s = r at hc hc1 hc2 hc3 hc4 hrun
      obtain ⟨err, s'⟩ := r
      refine t_pf hc ?_ ?_
      · rintro v h' n' ⟨g1, g2, g3, g4⟩
        cases err with
        | some x => exact absurd g4.1 (by simp)
        | none =>
          simp only at g2 g4 hrun hc1 hc2 hc3 hc4
          have hc4 := hc4 trivial
          have g5 := g4.2
          subst g5
          have gat := g2
          simp only [PS.cells] at gat
          have hadd : IntKind.i64.wrap ((s'.pos : Int) + 1) = ((s'.pos + 1 : Nat) : Int) := by rw [i64 (by omega) (by omega)]; rfl
          repeat' first | refine t_p rfl ?_ | refine t_sr ?_ | refine t_nil ?_ | refine t_seq ?_ | refine t_region ?_ | refine t_block ?_ | refine t_cond ?_ | refine b_t ?_ | refine b_f ?_ | refine t_skip ?_ | refine t_exit ?_ | refine t_ret ?_ | refine t_onN ?_ | refine t_onE ?_ | refine t_onR ?_ | refine t_onP ?_ | refine t_xN ?_ | refine t_xR ?_ | refine t_xP ?_ | refine t_xS ?_ | refine t_xO (by decide) ?_ | refine t_gt ?_ | refine t_gf rfl ?_ | refine t_wr ?_ | refine t_wn ?_ | refine t_wp ?_ | refine t_on rfl ?_ | refine t_pan rfl ?_ | refine t_mki rfl ?_ | refine t_tas rfl ?_ | refine t_def rfl ?_ | refine t_op rfl ?_ | refine t_gd rfl ?_ | ((first | refine zE1 ?_); (conv => arg 1; try simp only [go_sem, Nat.reduceEqDiff, reduceIte, Nat.reduceAdd, Nat.reduceLeDiff, Nat.reduceMul, Int.reduceEq, Int.reduceLT, Int.reduceLE, Int.reduceNeg, Int.reduceAdd, Int.reduceSub, Nat.reduceLT, Nat.reduceBEq, Nat.reduceSub, Nat.reducePow, Option.map_none, Option.isSome_none, Int.natCast_zero, rep, hT, gat, strs_len, hlt', hget, hadd]); first | refine zE3 ?_ | refine zE2 ?_ | refine zE4 ?_ | refine zE5 ?_ | refine zE6 ?_ | refine zE7 ?_ | refine zE8 ?_) | (refine b_s (fun hb => ?_) (fun hb => ?_) <;> ((try simp only [hn1, hn2, hn3, hn4] at hb); first | (exfalso; omega) | skip)) | (refine t_gs (fun hb => ?_) (fun hb => ?_)) <;> ((try simp only [hn1, hn2] at hb); rw [hb]; try simp only [hn3, hn4] at hb)
          refine ⟨k - (s'.pos + 1 - s.pos), by omega, rfl, { s' with pos := s'.pos + 1 }, j, by show 5 ≤ n'; omega, by show n0 ≤ n'; omega, ?_, fun m hm hm4 => ?_, ?_, hc4, hc3, by show s'.pos + 1 ≤ _; omega, by show _ = _ - (s'.pos + 1); omega, by show _ ≤ j + (s'.pos + 1); omega, hrun⟩
          · simp only [upd_same, PS.cells]
          · show upd h' 4 _ m = h0 m
            rw [upd_ne _ _ hm4, g3 m (by omega) hm4, hfr m hm hm4]
          · simp only [go_sem, Nat.reduceEqDiff, reduceIte, Nat.reduceBEq, Nat.reduceAdd, hT]
      · rintro v h' n' ⟨g1, g2, g3, g4⟩
        cases err with
        | none => exact absurd g4.1 (by simp)
        | some x =>
          obtain ⟨pa, pe⟩ := x
          simp only at g2 g4 hrun
          have g5 := g4.2
          subst g5
          repeat' first | refine t_p rfl ?_ | refine t_sr ?_ | refine t_nil ?_ | refine t_seq ?_ | refine t_region ?_ | refine t_block ?_ | refine t_cond ?_ | refine b_t ?_ | refine b_f ?_ | refine t_skip ?_ | refine t_exit ?_ | refine t_ret ?_ | refine t_onN ?_ | refine t_onE ?_ | refine t_onR ?_ | refine t_onP ?_ | refine t_xN ?_ | refine t_xR ?_ | refine t_xP ?_ | refine t_xS ?_ | refine t_xO (by decide) ?_ | refine t_gt ?_ | refine t_gf rfl ?_ | refine t_wr ?_ | refine t_wn ?_ | refine t_wp ?_ | refine t_on rfl ?_ | refine t_pan rfl ?_ | refine t_mki rfl ?_ | refine t_tas rfl ?_ | refine t_def rfl ?_ | refine t_op rfl ?_ | refine t_gd rfl ?_ | ((first | refine zE1 ?_); (conv => arg 1; try simp only [go_sem, Nat.reduceEqDiff, reduceIte, Nat.reduceAdd, Nat.reduceLeDiff, Nat.reduceMul, Int.reduceEq, Int.reduceLT, Int.reduceLE, Int.reduceNeg, Int.reduceAdd, Int.reduceSub, Nat.reduceLT, Nat.reduceBEq, Nat.reduceSub, Nat.reducePow, Option.map_none, Option.isSome_none, Int.natCast_zero, rep]); first | refine zE3 ?_ | refine zE2 ?_ | refine zE4 ?_ | refine zE5 ?_ | refine zE6 ?_ | refine zE7 ?_ | refine zE8 ?_) | (refine b_s (fun hb => ?_) (fun hb => ?_) <;> ((try simp only [hn1, hn2, hn3, hn4] at hb); first | (exfalso; omega) | skip)) | (refine t_gs (fun hb => ?_) (fun hb => ?_)) <;> ((try simp only [hn1, hn2] at hb); rw [hb]; try simp only [hn3, hn4] at hb)
          unfold allF
          rw [← hrun]
          refine ⟨by show n0 ≤ n'; omega, g2, fun m hm hm4 => ?_, rfl, rfl⟩
          show h' m = h0 m
          rw [g3 m (by omega) hm4, hfr m hm hm4]
    · have hge : l.length ≤ s.pos := by omega
      have hrun' : runF W l l.length s0 = (none, s) := by
        rw [← hrun]
        cases j with
        | zero => rfl
        | succ j => rw [runF, List.getElem?_eq_none hge]
      rw [hnm] at hat
      have hc47 := pc47 G s.nl s.sl s.rw s.jn s.asc s.ind
      repeat' first | refine w_op rfl rfl ?_ | refine x_p rfl ?_ | refine w_sr ?_ | refine st_nil ?_ | refine w_seq ?_ | refine st_region ?_ | refine st_block ?_ | refine w_cond ?_ | refine b_t ?_ | refine b_f ?_ | refine st_skip ?_ | refine st_exit ?_ | refine st_ret ?_ | refine st_onNormN ?_ | refine st_onNormE ?_ | refine st_onNormR ?_ | refine st_onExitN ?_ | refine st_onExitR ?_ | refine st_onExitS ?_ | refine st_onExitO (by decide) ?_ | refine g_t ?_ | refine g_f rfl ?_ | refine o_op rfl ?_ | refine w_wr ?_ | refine w_wn ?_ | refine d_c rfl ?_ | refine d_on rfl ?_ | refine d_op rfl ?_ | refine d_y ?_ | refine d_gd rfl ?_ | refine d_t ?_ | refine d_f ?_ | refine d_nil ?_ | refine w_dr rfl ?_ | refine d_q ?_ | refine w_gd rfl ?_ | ((first | refine zE1 ?_); (conv => arg 1; try simp only [go_sem, Nat.reduceEqDiff, reduceIte, Nat.reduceAdd, Nat.reduceLeDiff, Nat.reduceMul, Int.reduceEq, Int.reduceLT, Int.reduceLE, Int.reduceNeg, Int.reduceAdd, Int.reduceSub, Nat.reduceLT, Nat.reduceBEq, Nat.reduceSub, Nat.reducePow, hT, hat, strs_len]); first | refine zE3 ?_ | refine zE2 ?_ | refine zE4 ?_ | refine zE5 ?_ | refine zE6 ?_ | refine zE7 ?_ | refine zE8 ?_) | (refine w_u false ?_; (conv => arg 1; reduce); refine zR1 ?_) | (refine b_s (fun hb => ?_) (fun hb => ?_) <;> ((try simp only [hn1, hn2, hn3, hn4] at hb); first | (exfalso; omega) | skip)) | (first | refine g_s (fun hb => ?_) (fun hb => ?_) | refine d_s (fun hb => ?_) (fun hb => ?_)) <;> ((try simp only [hn1, hn2] at hb); rw [hb]; try simp only [hn3, hn4] at hb)
      by_cases he : optErr s.asc s.ind = 0
      · have heT : (optErr s.asc s.ind = 0) = True := eq_true he
        rw [he] at hc47
        repeat' first | refine t_p rfl ?_ | refine t_sr ?_ | refine t_nil ?_ | refine t_seq ?_ | refine t_region ?_ | refine t_block ?_ | refine t_cond ?_ | refine b_t ?_ | refine b_f ?_ | refine t_skip ?_ | refine t_exit ?_ | refine t_ret ?_ | refine t_onN ?_ | refine t_onE ?_ | refine t_onR ?_ | refine t_onP ?_ | refine t_xN ?_ | refine t_xR ?_ | refine t_xP ?_ | refine t_xS ?_ | refine t_xO (by decide) ?_ | refine t_gt ?_ | refine t_gf rfl ?_ | refine t_wr ?_ | refine t_wn ?_ | refine t_wp ?_ | refine t_on rfl ?_ | refine t_pan rfl ?_ | refine t_mki rfl ?_ | refine t_tas rfl ?_ | refine t_def rfl ?_ | refine t_op rfl ?_ | refine t_k (k_p rfl rfl rfl rfl (hc47) ?_) | refine z_f rfl rfl (hc47) rfl ?_ | refine z_g rfl rfl (hc47) rfl ?_ | refine z_of rfl rfl (hc47) rfl ?_ | refine z_og rfl rfl (hc47) rfl ?_ | refine t_kR (pf78 G _ _ _ _ _) rfl ?_ | refine t_kP (pf78 G _ _ _ _ _) ?_ | refine t_k (k_z rfl ?_) | refine t_n0 rfl ?_ | refine t_gd rfl ?_ | ((first | refine zE1 ?_ | refine t_cl rfl ?_); (conv => arg 1; try simp only [go_sem, Nat.reduceEqDiff, reduceIte, Nat.reduceAdd, Nat.reduceLeDiff, Nat.reduceMul, Int.reduceEq, Int.reduceLT, Int.reduceLE, Int.reduceNeg, Int.reduceAdd, Int.reduceSub, Nat.reduceLT, Nat.reduceBEq, Nat.reduceSub, Nat.reducePow, Option.map_none, Option.isSome_none, Int.natCast_zero, rep, hT, hat, strs_len]); first | refine zE3 ?_ | refine zE2 ?_ | refine zE4 ?_ | refine zE5 ?_ | refine zE6 ?_ | refine zE7 ?_ | refine zE8 ?_) | (refine b_s (fun hb => ?_) (fun hb => ?_) <;> ((try simp only [hn1, hn2, hn3, hn4] at hb); first | (exfalso; omega) | skip)) | (refine t_gs (fun hb => ?_) (fun hb => ?_)) <;> ((try simp only [hn1, hn2] at hb); rw [hb]; try simp only [hn3, hn4] at hb)
        · simp only [allF, hrun', hb, if_true]
          exact ⟨hn, hh, hfr, rfl, rfl⟩
        · simp only [allF, hrun', hb, he, if_true, Bool.true_eq_false, if_false]
          exact ⟨hn, hh, hfr, rfl, rfl⟩
      · have heF : (optErr s.asc s.ind = 0) = False := eq_false he
        repeat' first | refine t_p rfl ?_ | refine t_sr ?_ | refine t_nil ?_ | refine t_seq ?_ | refine t_region ?_ | refine t_block ?_ | refine t_cond ?_ | refine b_t ?_ | refine b_f ?_ | refine t_skip ?_ | refine t_exit ?_ | refine t_ret ?_ | refine t_onN ?_ | refine t_onE ?_ | refine t_onR ?_ | refine t_onP ?_ | refine t_xN ?_ | refine t_xR ?_ | refine t_xP ?_ | refine t_xS ?_ | refine t_xO (by decide) ?_ | refine t_gt ?_ | refine t_gf rfl ?_ | refine t_wr ?_ | refine t_wn ?_ | refine t_wp ?_ | refine t_on rfl ?_ | refine t_pan rfl ?_ | refine t_mki rfl ?_ | refine t_tas rfl ?_ | refine t_def rfl ?_ | refine t_op rfl ?_ | refine t_k (k_p rfl rfl rfl rfl (hc47) ?_) | refine z_f rfl rfl (hc47) rfl ?_ | refine z_g rfl rfl (hc47) rfl ?_ | refine z_of rfl rfl (hc47) rfl ?_ | refine z_og rfl rfl (hc47) rfl ?_ | refine t_kR (pf78 G _ _ _ _ _) rfl ?_ | refine t_kP (pf78 G _ _ _ _ _) ?_ | refine t_k (k_z rfl ?_) | refine t_n0 rfl ?_ | refine t_gd rfl ?_ | ((first | refine zE1 ?_ | refine t_cl rfl ?_); (conv => arg 1; try simp only [go_sem, Nat.reduceEqDiff, reduceIte, Nat.reduceAdd, Nat.reduceLeDiff, Nat.reduceMul, Int.reduceEq, Int.reduceLT, Int.reduceLE, Int.reduceNeg, Int.reduceAdd, Int.reduceSub, Nat.reduceLT, Nat.reduceBEq, Nat.reduceSub, Nat.reducePow, Option.map_none, Option.isSome_none, Int.natCast_zero, rep, hT, hat, strs_len, heF]); first | refine zE3 ?_ | refine zE2 ?_ | refine zE4 ?_ | refine zE5 ?_ | refine zE6 ?_ | refine zE7 ?_ | refine zE8 ?_) | (refine b_s (fun hb => ?_) (fun hb => ?_) <;> ((try simp only [hn1, hn2, hn3, hn4] at hb); first | (exfalso; omega) | skip)) | (refine t_gs (fun hb => ?_) (fun hb => ?_)) <;> ((try simp only [hn1, hn2] at hb); rw [hb]; try simp only [hn3, hn4] at hb)
        · simp only [allF, hrun', hb, if_true]
          exact ⟨hn, hh, hfr, rfl, rfl⟩
        · simp only [allF, hrun', hb, he, Bool.true_eq_false, if_false]
          exact ⟨hn, hh, hfr, rfl, rfl⟩
  · exact ⟨rfl, s0, l.length, hn5, Nat.le_refl _, hh0, fun _ _ _ => rfl, rfl, hJ0, hn0, by omega, by omega, by omega, rfl⟩
end Go.Proofs.Bv
namespace Go.Proofs.Bv
open Go
theorem ok39 : codeOk 17 (Tryz.f39.body.getD .skip) = true := by kernel_rfl
theorem ok14 : codeOk 31 (Tryz.f14.body.getD .skip) = true := by kernel_rfl
set_option maxRecDepth 100000 in
theorem pd39n (G : Nat → Option (List AV)) (h : Heap) (n : Nat) (hn : 4 ≤ n) : Pd (Cf G) 39 [.ptr 0 0, .ptr 1 0, .ptr 2 0, .ptr 3 0] h n .calm fun h' n' r' => r' = .calm ∧ ∀ m, m < n → h' m = h m := by
  refine pd_enter (C := Cf G) Tryz.func39 rfl ok39 (by rfl) ?_
  simp only [Tryz.f39, Option.getD_some]
  repeat' first | refine s_p rfl ?_ | refine s_seq ?_ | refine s_region ?_ | refine s_nil ?_ | refine s_cond ?_ | refine b_t ?_ | refine b_f ?_ | refine s_skip ?_ | refine s_onN ?_ | refine s_wn ?_ | refine s_rec rfl rfl rfl ?_ | refine s_ta rfl rfl ?_ | refine s_op rfl ?_ | (refine zE1 ?_; (conv => arg 1; try simp only [go_sem, Nat.reduceEqDiff, reduceIte, Nat.reduceAdd, Nat.reduceLeDiff, Nat.reduceMul, Int.reduceEq, Int.reduceLT, Int.reduceLE, Int.reduceNeg, Int.reduceAdd, Int.reduceSub, Nat.reduceLT, Nat.reduceBEq, Nat.reduceSub, Nat.reducePow, Option.map_none, Option.isSome_none, Int.natCast_zero, rep]); first | refine zE3 ?_ | refine zE2 ?_ | refine zE4 ?_ | refine zE5 ?_ | refine zE6 ?_ | refine zE7 ?_ | refine zE8 ?_)
  refine ⟨rfl, fun m hm => ?_⟩
  show upd (upd h n _) n _ m = h m
  rw [upd_ne _ _ (by omega), upd_ne _ _ (by omega)]
structure Res0 (h : Heap) : Prop where
  h0 : h 0 = some (.cells [.sc (.bool false), .sc (.bool false), .sc (.bool false), .sc (.bool false), .sc (.bool false), .sc (.int .i64 0), .nilS] 0 false)
  h1 : h 1 = some (.cells [.sc (.string ByteArray.empty)] 0 false)
  h2 : h 2 = some (.cells [.sc (.int .i64 0)] 0 false)
  h3 : h 3 = some (.cells [.sc (.int .i64 0)] 0 false)
structure ResE (h : Heap) (a e : Int) : Prop where
  h0 : h 0 = some (.cells [.sc (.bool false), .sc (.bool false), .sc (.bool false), .sc (.bool false), .sc (.bool false), .sc (.int .i64 0), .nilS] 0 false)
  h1 : h 1 = some (.cells [.sc (.string ByteArray.empty)] 0 false)
  h2 : h 2 = some (.cells [.sc (.int .i64 a)] 0 false)
  h3 : h 3 = some (.cells [.sc (.int .i64 e)] 0 false)
set_option maxRecDepth 100000 in
set_option maxHeartbeats 1000000 in
theorem pd39p (G : Nat → Option (List AV)) (h : Heap) (n : Nat) (hn : 4 ≤ n) (h0 : Res0 h) (a e : Int) : Pd (Cf G) 39 [.ptr 0 0, .ptr 1 0, .ptr 2 0, .ptr 3 0] h n (.pan (.ifc 83 (.agg [.sc (.int .i64 a), .sc (.int .i64 e)]))) fun h' n' r' => (∃ v, r' = .done v) ∧ ResE h' a e := by
  obtain ⟨hh0, hh1, hh2, hh3⟩ := h0
  have e0 : (n = 0) = False := eq_false (by omega)
  have e1 : (n = 1) = False := eq_false (by omega)
  have e2 : (n = 2) = False := eq_false (by omega)
  have e3 : (n = 3) = False := eq_false (by omega)
  have f0 : (0 = n) = False := eq_false (by omega)
  have f1 : (1 = n) = False := eq_false (by omega)
  have f2 : (2 = n) = False := eq_false (by omega)
  have f3 : (3 = n) = False := eq_false (by omega)
  have b0 : (n == 0) = false := beq_eq_false_iff_ne.2 (by omega)
  have b1 : (n == 1) = false := beq_eq_false_iff_ne.2 (by omega)
  have b2 : (n == 2) = false := beq_eq_false_iff_ne.2 (by omega)
  have b3 : (n == 3) = false := beq_eq_false_iff_ne.2 (by omega)
  refine pd_enter (C := Cf G) Tryz.func39 rfl ok39 (by rfl) ?_
  simp only [Tryz.f39, Option.getD_some]
  repeat' first | refine s_p rfl ?_ | refine s_seq ?_ | refine s_region ?_ | refine s_nil ?_ | refine s_cond ?_ | refine b_t ?_ | refine b_f ?_ | refine s_skip ?_ | refine s_onN ?_ | refine s_wn ?_ | refine s_rec rfl rfl rfl ?_ | refine s_ta rfl rfl ?_ | refine s_op rfl ?_ | (refine zE1 ?_; (conv => arg 1; try simp only [go_sem, Nat.reduceEqDiff, reduceIte, Nat.reduceAdd, Nat.reduceLeDiff, Nat.reduceMul, Int.reduceEq, Int.reduceLT, Int.reduceLE, Int.reduceNeg, Int.reduceAdd, Int.reduceSub, Nat.reduceLT, Nat.reduceBEq, Nat.reduceSub, Nat.reducePow, Option.map_none, Option.isSome_none, Int.natCast_zero, rep]); first | refine zE3 ?_ | refine zE2 ?_ | refine zE4 ?_ | refine zE5 ?_ | refine zE6 ?_ | refine zE7 ?_ | refine zE8 ?_)
  refine s_dr ?_
  repeat' first | refine w_op rfl rfl ?_ | refine x_p rfl ?_ | refine w_sr ?_ | refine st_nil ?_ | refine w_seq ?_ | refine st_region ?_ | refine st_block ?_ | refine w_cond ?_ | refine b_t ?_ | refine b_f ?_ | refine st_skip ?_ | refine st_exit ?_ | refine st_ret ?_ | refine st_onNormN ?_ | refine st_onNormE ?_ | refine st_onNormR ?_ | refine st_onExitN ?_ | refine st_onExitR ?_ | refine st_onExitS ?_ | refine st_onExitO (by decide) ?_ | refine g_t ?_ | refine g_f rfl ?_ | refine o_op rfl ?_ | refine w_wr ?_ | refine w_wn ?_ | refine d_c rfl ?_ | refine d_on rfl ?_ | refine d_op rfl ?_ | refine d_y ?_ | refine d_gd rfl ?_ | refine d_t ?_ | refine d_f ?_ | refine d_nil ?_ | refine w_dg rfl ?_ | refine d_mid ?_ | refine d_mj ?_ | refine d_e ?_ | refine w_gd rfl ?_ | ((first | refine zE1 ?_); (conv => arg 1; try simp only [go_sem, Nat.reduceEqDiff, reduceIte, Nat.reduceAdd, Nat.reduceLeDiff, Nat.reduceMul, Int.reduceEq, Int.reduceLT, Int.reduceLE, Int.reduceNeg, Int.reduceAdd, Int.reduceSub, Nat.reduceLT, Nat.reduceBEq, Nat.reduceSub, Nat.reducePow, e0, e1, e2, e3, f0, f1, f2, f3, b0, b1, b2, b3, hh0, hh1, hh2, hh3]); first | refine zE3 ?_ | refine zE2 ?_ | refine zE4 ?_ | refine zE5 ?_ | refine zE6 ?_ | refine zE7 ?_ | refine zE8 ?_) | (refine w_u true ?_; (conv => arg 1; reduce); refine zR1 ?_) | (refine b_s (fun hb => ?_) (fun hb => ?_) <;> ((try simp only [hn1, hn2, hn3, hn4] at hb); first | (exfalso; omega) | skip)) | (first | refine g_s (fun hb => ?_) (fun hb => ?_) | refine d_s (fun hb => ?_) (fun hb => ?_)) <;> ((try simp only [hn1, hn2] at hb); rw [hb]; try simp only [hn3, hn4] at hb)
  refine s_wn ⟨⟨_, rfl, ⟨_, rfl⟩, ?_⟩⟩
  constructor
  all_goals simp only [go_sem, List.map_cons, List.map_nil, Nat.reduceEqDiff, reduceIte, Nat.reduceBEq, Nat.reduceAdd, e0, e1, e2, e3, f0, f1, f2, f3, b0, b1, b2, b3, hh0, hh1, hh2, hh3]
  all_goals rfl
end Go.Proofs.Bv
namespace Go.Proofs.Bv
open Go
theorem Pd.mono {C : Cfg} {f : FuncId} {args : List AV} {h : Heap} {n : Nat} {r : Rs} {Q Q' : Heap → Nat → Rs → Prop} (hp : Pd C f args h n r Q) (hq : ∀ h' n' r', Q h' n' r' → Q' h' n' r') : Pd C f args h n r Q' := by
  refine ⟨fun hS m Z w us u hr hus hf hu => ?_⟩
  obtain ⟨h1, h2⟩ := hp.go hS m Z w us u hr hus hf hu
  refine ⟨h1, h2.mono ?_⟩
  rintro e u' w' ⟨v, h', n', r', m', Z', q, rest⟩
  exact ⟨v, h', n', r', m', Z', hq _ _ _ q, rest⟩
def ps0 : PS := ⟨false, false, false, false, false, 2, .nilS, 0, ⟨#[]⟩, false, false⟩
def optsR (s : PS) : AV := .agg [.sc (.bool s.nl), .sc (.bool s.sl), .sc (.bool s.rw), .sc (.bool s.jn), .sc (.bool s.asc), .sc (.int .i64 s.ind), .psl [] 0]
def opts0 : AV := .agg [.sc (.bool false), .sc (.bool false), .sc (.bool false), .sc (.bool false), .sc (.bool false), .sc (.int .i64 0), .psl [] 0]
def parseR (W : ByteArray → PS → Option (Nat × Int) × PS) (l : List ByteArray) : AV :=
  match allF W l ps0 with
  | (some (a, e), _) => .tup [opts0, .sc (.string ⟨#[]⟩), .sc (.int .i64 a), .sc (.int .i64 e)]
  | (none, s) => .tup [optsR s, .sc (.string s.fl), .sc (.int .i64 l.length), .sc (.int .i64 0)]
def WordsOk (G : Nat → Option (List AV)) (l : List ByteArray) (W : ByteArray → PS → Option (Nat × Int) × PS) (J : PS → Prop) : Prop :=
  ∀ (w : ByteArray) (s : PS) (h : Heap) (n : Nat), l[s.pos]? = some w → J s → s.nm = .nilS → 5 ≤ n → h 4 = some (.cells (s.cells (.psl (strs l) l.length)) 0 false) →
    Pf (Cf G) 77 [.ptr 4 0, .sc (.string w)] h n (wordG h n (.psl (strs l) l.length) (W w s)) ∧ s.pos ≤ (W w s).2.pos ∧ (W w s).2.pos ≤ l.length ∧ (W w s).2.nm = .nilS ∧ ((W w s).1 = none → J { (W w s).2 with pos := (W w s).2.pos + 1 })
theorem runF_nm {G : Nat → Option (List AV)} {l : List ByteArray} {W : ByteArray → PS → Option (Nat × Int) × PS} {J : PS → Prop} (hnm : ∀ w s, l[s.pos]? = some w → J s → s.nm = .nilS → (W w s).2.nm = .nilS ∧ ((W w s).1 = none → J { (W w s).2 with pos := (W w s).2.pos + 1 })) : (k : Nat) → (s : PS) → J s → s.nm = .nilS → (runF W l k s).2.nm = .nilS
  | 0, s, _, h => h
  | k + 1, s, hJ, h => by
    rw [runF]
    split
    · exact h
    · rename_i w hw
      have h1 := hnm w s hw hJ h
      split
      · rename_i e s' he; rw [he] at h1; exact h1.1
      · rename_i s' he; rw [he] at h1; exact runF_nm (G := G) hnm k _ (h1.2 rfl) h1.1
set_option maxRecDepth 100000 in
set_option maxHeartbeats 1000000 in
theorem pf14 (G : Nat → Option (List AV)) (l : List ByteArray) (hlen : l.length ≤ 64) (W : ByteArray → PS → Option (Nat × Int) × PS) (J : PS → Prop) (hJ : J ps0) (hW : WordsOk G l W J) :
    Pf (Cf G) 14 [.psl (strs l) l.length] noHeap 0 fun p v h' _ => p = false ∧ (frz h' 64 v).map (·.1) = some (parseR W l) := by
  refine df_enter (C := Cf G) Tryz.func14 rfl ok14 (by rfl) ?_
  simp only [Tryz.f14, Option.getD_some]
  have hgt : ¬ (64 : Int) < l.length := by omega
  repeat' first | refine t_p rfl ?_ | refine t_sr ?_ | refine t_nil ?_ | refine t_seq ?_ | refine t_region ?_ | refine t_block ?_ | refine t_cond ?_ | refine b_t ?_ | refine b_f ?_ | refine t_skip ?_ | refine t_exit ?_ | refine t_ret ?_ | refine t_onN ?_ | refine t_onE ?_ | refine t_onR ?_ | refine t_onP ?_ | refine t_xN ?_ | refine t_xR ?_ | refine t_xP ?_ | refine t_xS ?_ | refine t_xO (by decide) ?_ | refine t_gt ?_ | refine t_gf rfl ?_ | refine t_wr ?_ | refine t_wn ?_ | refine t_wp ?_ | refine t_on rfl ?_ | refine t_pan rfl ?_ | refine t_mki rfl ?_ | refine t_tas rfl ?_ | refine t_def rfl ?_ | refine t_op rfl ?_ | refine t_k (k_p rfl rfl rfl rfl (hlen) ?_) | refine t_n0 rfl ?_ | refine t_gd rfl ?_ | ((first | refine zE1 ?_ | refine t_cl rfl ?_); (conv => arg 1; try simp only [go_sem, Nat.reduceEqDiff, reduceIte, Nat.reduceAdd, Nat.reduceLeDiff, Nat.reduceMul, Int.reduceEq, Int.reduceLT, Int.reduceLE, Int.reduceNeg, Int.reduceAdd, Int.reduceSub, Nat.reduceLT, Nat.reduceBEq, Nat.reduceSub, Nat.reducePow, Option.map_none, Option.isSome_none, Int.natCast_zero, rep, hgt]); first | refine zE3 ?_ | refine zE2 ?_ | refine zE4 ?_ | refine zE5 ?_ | refine zE6 ?_ | refine zE7 ?_ | refine zE8 ?_) | (refine b_s (fun hb => ?_) (fun hb => ?_) <;> ((try simp only [hn1, hn2, hn3, hn4] at hb); first | (exfalso; omega) | skip)) | (refine t_gs (fun hb => ?_) (fun hb => ?_)) <;> ((try simp only [hn1, hn2] at hb); rw [hb]; try simp only [hn3, hn4] at hb)
  refine t_pf (pf40 G l (by omega) W J hW ps0 hJ rfl rfl _ 5 (Nat.le_refl _) rfl) ?_ ?_
  · rintro v h' n' ⟨g1, g2, g3, g4⟩
    have r0 : h' 0 = some (.cells [.sc (.bool false), .sc (.bool false), .sc (.bool false), .sc (.bool false), .sc (.bool false), .sc (.int .i64 0), .nilS] 0 false) := (g3 0 (by omega) (by omega)).trans rfl
    have r1 : h' 1 = some (.cells [.sc (.string ByteArray.empty)] 0 false) := (g3 1 (by omega) (by omega)).trans rfl
    have r2 : h' 2 = some (.cells [.sc (.int .i64 0)] 0 false) := (g3 2 (by omega) (by omega)).trans rfl
    have r3 : h' 3 = some (.cells [.sc (.int .i64 0)] 0 false) := (g3 3 (by omega) (by omega)).trans rfl
    clear g3
    have hnm : (allF W l ps0).2.nm = .nilS := by
      have h1 := runF_nm (G := G) (l := l) (W := W) (J := J) (fun w s hw hj hs => (hW w s (pHeap noHeap (.psl (strs l) l.length) s) 5 hw hj hs (Nat.le_refl _) (pHeap_at _ _ _)).2.2.2) l.length ps0 hJ rfl
      unfold allF
      generalize runF W l l.length ps0 = r at h1
      obtain ⟨er, s'⟩ := r
      cases er with
      | some e => exact h1
      | none =>
        simp only
        split
        · exact h1
        · split <;> exact h1
    unfold parseR
    generalize allF W l ps0 = r at g2 g4 hnm
    obtain ⟨er, s⟩ := r
    cases er with
    | some e => exact absurd g4.1 (by simp)
    | none =>
      simp only at g2 g4 hnm
      have g5 := g4.2
      subst g5
      refine t_p rfl ?_
      refine t_nil ?_
      refine t_onN ?_
      refine t_seq ?_
      refine t_dr ?_
      have gat := g2
      simp only [PS.cells, hnm] at gat
      repeat' first | refine w_op rfl rfl ?_ | refine x_p rfl ?_ | refine w_sr ?_ | refine st_nil ?_ | refine w_seq ?_ | refine st_region ?_ | refine st_block ?_ | refine w_cond ?_ | refine b_t ?_ | refine b_f ?_ | refine st_skip ?_ | refine st_exit ?_ | refine st_ret ?_ | refine st_onNormN ?_ | refine st_onNormE ?_ | refine st_onNormR ?_ | refine st_onExitN ?_ | refine st_onExitR ?_ | refine st_onExitS ?_ | refine st_onExitO (by decide) ?_ | refine g_t ?_ | refine g_f rfl ?_ | refine o_op rfl ?_ | refine w_wr ?_ | refine w_wn ?_ | refine d_c rfl ?_ | refine d_on rfl ?_ | refine d_op rfl ?_ | refine d_y ?_ | refine d_gd rfl ?_ | refine d_t ?_ | refine d_f ?_ | refine d_nil ?_ | refine w_dg rfl ?_ | refine d_mid ?_ | refine d_mj ?_ | refine d_e ?_ | refine w_gd rfl ?_ | ((first | refine zE1 ?_); (conv => arg 1; try simp only [go_sem, Nat.reduceEqDiff, reduceIte, Nat.reduceAdd, Nat.reduceLeDiff, Nat.reduceMul, Int.reduceEq, Int.reduceLT, Int.reduceLE, Int.reduceNeg, Int.reduceAdd, Int.reduceSub, Nat.reduceLT, Nat.reduceBEq, Nat.reduceSub, Nat.reducePow, r0, r1, r2, r3, gat]); first | refine zE3 ?_ | refine zE2 ?_ | refine zE4 ?_ | refine zE5 ?_ | refine zE6 ?_ | refine zE7 ?_ | refine zE8 ?_) | (refine w_u true ?_; (conv => arg 1; reduce); refine zR1 ?_) | (refine b_s (fun hb => ?_) (fun hb => ?_) <;> ((try simp only [hn1, hn2, hn3, hn4] at hb); first | (exfalso; omega) | skip)) | (first | refine g_s (fun hb => ?_) (fun hb => ?_) | refine d_s (fun hb => ?_) (fun hb => ?_)) <;> ((try simp only [hn1, hn2] at hb); rw [hb]; try simp only [hn3, hn4] at hb)
      refine t_onN ?_
      refine t_ret ?_
      refine Pd.mono (pd39n G _ _ (by show 4 ≤ n'; omega)) ?_
      rintro h2 n2 rr ⟨rfl, hfr⟩
      have q0 : h2 0 = some (.cells [.sc (.bool s.nl), .sc (.bool s.sl), .sc (.bool s.rw), .sc (.bool s.jn), .sc (.bool s.asc), .sc (.int .i64 s.ind), .nilS] 0 false) := (hfr 0 (by show 0 < n'; omega)).trans (by simp only [go_sem, List.map_cons, List.map_nil, Nat.reduceEqDiff, reduceIte, Nat.reduceAdd, Nat.reduceLeDiff, Nat.reduceMul, Nat.reduceLT, Nat.reduceBEq, Nat.reduceSub, r0, r1, r2, r3, gat])
      have q1 : h2 1 = some (.cells [.sc (.string s.fl)] 0 false) := (hfr 1 (by show 1 < n'; omega)).trans (by simp only [go_sem, List.map_cons, List.map_nil, Nat.reduceEqDiff, reduceIte, Nat.reduceAdd, Nat.reduceLeDiff, Nat.reduceMul, Nat.reduceLT, Nat.reduceBEq, Nat.reduceSub, r0, r1, r2, r3, gat])
      have q2 : h2 2 = some (.cells [.sc (.int .i64 l.length)] 0 false) := (hfr 2 (by show 2 < n'; omega)).trans (by simp only [go_sem, List.map_cons, List.map_nil, Nat.reduceEqDiff, reduceIte, Nat.reduceAdd, Nat.reduceLeDiff, Nat.reduceMul, Nat.reduceLT, Nat.reduceBEq, Nat.reduceSub, r0, r1, r2, r3, gat])
      have q3 : h2 3 = some (.cells [.sc (.int .i64 0)] 0 false) := (hfr 3 (by show 3 < n'; omega)).trans (by simp only [go_sem, List.map_cons, List.map_nil, Nat.reduceEqDiff, reduceIte, Nat.reduceAdd, Nat.reduceLeDiff, Nat.reduceMul, Nat.reduceLT, Nat.reduceBEq, Nat.reduceSub, r0, r1, r2, r3, gat])
      refine ⟨rfl, [.agg [.sc (.bool s.nl), .sc (.bool s.sl), .sc (.bool s.rw), .sc (.bool s.jn), .sc (.bool s.asc), .sc (.int .i64 s.ind), .nilS], .sc (.string s.fl), .sc (.int .i64 l.length), .sc (.int .i64 0)], ?_, rfl, ?_⟩
      · simp only [go_sem, List.map_cons, List.map_nil, Nat.reduceEqDiff, reduceIte, Nat.reduceAdd, Nat.reduceLeDiff, Nat.reduceMul, Nat.reduceLT, Nat.reduceBEq, Nat.reduceSub, q0, q1, q2, q3]
      · simp only [one1, optsR, go_sem, Nat.reduceEqDiff, reduceIte, Nat.reduceAdd, Nat.reduceLeDiff, Nat.reduceMul, Nat.reduceLT, Nat.reduceBEq, Nat.reduceSub]
  · rintro v h' n' ⟨g1, g2, g3, g4⟩
    have r0 : Res0 h' := ⟨(g3 0 (by omega) (by omega)).trans rfl, (g3 1 (by omega) (by omega)).trans rfl, (g3 2 (by omega) (by omega)).trans rfl, (g3 3 (by omega) (by omega)).trans rfl⟩
    clear g3
    unfold parseR
    generalize allF W l ps0 = r at g2 g4
    obtain ⟨er, s⟩ := r
    cases er with
    | none => exact absurd g4.1 (by simp)
    | some e =>
      obtain ⟨a, e⟩ := e
      simp only at g2 g4
      have g5 := g4.2
      subst g5
      repeat' first | refine t_p rfl ?_ | refine t_sr ?_ | refine t_nil ?_ | refine t_seq ?_ | refine t_region ?_ | refine t_block ?_ | refine t_cond ?_ | refine b_t ?_ | refine b_f ?_ | refine t_skip ?_ | refine t_exit ?_ | refine t_ret ?_ | refine t_onN ?_ | refine t_onE ?_ | refine t_onR ?_ | refine t_onP ?_ | refine t_xN ?_ | refine t_xR ?_ | refine t_xP ?_ | refine t_xS ?_ | refine t_xO (by decide) ?_ | refine t_gt ?_ | refine t_gf rfl ?_ | refine t_wr ?_ | refine t_wn ?_ | refine t_wp ?_ | refine t_on rfl ?_ | refine t_pan rfl ?_ | refine t_mki rfl ?_ | refine t_tas rfl ?_ | refine t_def rfl ?_ | refine t_op rfl ?_ | refine t_gd rfl ?_ | ((first | refine zE1 ?_); (conv => arg 1; try simp only [go_sem, Nat.reduceEqDiff, reduceIte, Nat.reduceAdd, Nat.reduceLeDiff, Nat.reduceMul, Int.reduceEq, Int.reduceLT, Int.reduceLE, Int.reduceNeg, Int.reduceAdd, Int.reduceSub, Nat.reduceLT, Nat.reduceBEq, Nat.reduceSub, Nat.reducePow, Option.map_none, Option.isSome_none, Int.natCast_zero, rep]); first | refine zE3 ?_ | refine zE2 ?_ | refine zE4 ?_ | refine zE5 ?_ | refine zE6 ?_ | refine zE7 ?_ | refine zE8 ?_) | (refine b_s (fun hb => ?_) (fun hb => ?_) <;> ((try simp only [hn1, hn2, hn3, hn4] at hb); first | (exfalso; omega) | skip)) | (refine t_gs (fun hb => ?_) (fun hb => ?_)) <;> ((try simp only [hn1, hn2] at hb); rw [hb]; try simp only [hn3, hn4] at hb)
      refine Pd.mono (pd39p G h' n' (by omega) r0 a e) ?_
      rintro h2 n2 rr ⟨⟨vv, rfl⟩, q0, q1, q2, q3⟩
      refine ⟨[.agg [.sc (.bool false), .sc (.bool false), .sc (.bool false), .sc (.bool false), .sc (.bool false), .sc (.int .i64 0), .nilS], .sc (.string ByteArray.empty), .sc (.int .i64 a), .sc (.int .i64 e)], ?_, rfl, ?_⟩
      · simp only [go_sem, List.map_cons, List.map_nil, Nat.reduceEqDiff, reduceIte, Nat.reduceAdd, Nat.reduceLeDiff, Nat.reduceMul, Nat.reduceLT, Nat.reduceBEq, Nat.reduceSub, q0, q1, q2, q3]
      · simp only [one1, opts0, go_sem, Nat.reduceEqDiff, reduceIte, Nat.reduceAdd, Nat.reduceLeDiff, Nat.reduceMul, Nat.reduceLT, Nat.reduceBEq, Nat.reduceSub]
        try rfl
end Go.Proofs.Bv
namespace Go.Proofs.Bv
open Go
theorem ok162 : codeOk 37 (Tryz.f162.body.getD .skip) = true := by kernel_rfl
theorem ok115 : codeOk 83 (Tryz.f115.body.getD .skip) = true := by kernel_rfl
set_option maxRecDepth 100000 in
set_option maxHeartbeats 1000000 in
theorem pf162 (G : Nat → Option (List AV)) (l : List ByteArray) (hlen : l.length ≤ 1000) (s : PS) (h : Heap) (n : Nat) (hp : s.pos < l.length) (hh : h 4 = some (.cells (s.cells (.psl (strs l) l.length)) 0 false)) :
    (∀ w, l[s.pos + 1]? = some w → PfR (Cf G) 162 [.ptr 4 0] h n (.sc (.string w)) (pHeap h (.psl (strs l) l.length) { s with pos := s.pos + 1 }) n) ∧
    (l.length ≤ s.pos + 1 → PfP (Cf G) 162 [.ptr 4 0] h n (.ifc 83 (.agg [.sc (.int .i64 l.length), .sc (.int .i64 8)])) (pHeap h (.psl (strs l) l.length) { s with pos := s.pos + 1 }) n) := by
  have hat := hh
  simp only [PS.cells] at hat
  have hadd : IntKind.i64.wrap ((s.pos : Int) + 1) = ((s.pos + 1 : Nat) : Int) := by rw [i64 (by omega) (by omega)]; rfl
  constructor
  · intro w hw
    have hlt : s.pos + 1 < l.length := (List.getElem?_eq_some_iff.1 hw).1
    have hlt' : (s.pos + 1 < l.length) = True := eq_true hlt
    have hget : (strs l)[(s.pos + 1) * 1]? = some (.sc (.string w)) := by simp [strs, hw]
    have hcmp : ((l.length : Int) ≤ ((s.pos + 1 : Nat) : Int)) = False := eq_false (by omega)
    refine pf_enter (C := Cf G) Tryz.func162 rfl ok162 (by rfl) ?_
    simp only [Tryz.f162, Option.getD_some]
    repeat' first | refine t_p rfl ?_ | refine t_sr ?_ | refine t_nil ?_ | refine t_seq ?_ | refine t_region ?_ | refine t_block ?_ | refine t_cond ?_ | refine b_t ?_ | refine b_f ?_ | refine t_skip ?_ | refine t_exit ?_ | refine t_ret ?_ | refine t_onN ?_ | refine t_onE ?_ | refine t_onR ?_ | refine t_onP ?_ | refine t_xN ?_ | refine t_xR ?_ | refine t_xP ?_ | refine t_xS ?_ | refine t_xO (by decide) ?_ | refine t_gt ?_ | refine t_gf rfl ?_ | refine t_wr ?_ | refine t_wn ?_ | refine t_wp ?_ | refine t_on rfl ?_ | refine t_pan rfl ?_ | refine t_mki rfl ?_ | refine t_tas rfl ?_ | refine t_def rfl ?_ | refine t_op rfl ?_ | refine t_gd rfl ?_ | ((first | refine zE1 ?_); (conv => arg 1; try simp only [go_sem, Nat.reduceEqDiff, reduceIte, Nat.reduceAdd, Nat.reduceLeDiff, Nat.reduceMul, Int.reduceEq, Int.reduceLT, Int.reduceLE, Int.reduceNeg, Int.reduceAdd, Int.reduceSub, Nat.reduceLT, Nat.reduceBEq, Nat.reduceSub, Nat.reducePow, Option.map_none, Option.isSome_none, Int.natCast_zero, rep, hat, hadd]); first | refine zE3 ?_ | refine zE2 ?_ | refine zE4 ?_ | refine zE5 ?_ | refine zE6 ?_ | refine zE7 ?_ | refine zE8 ?_) | (refine b_s (fun hb => ?_) (fun hb => ?_) <;> ((try simp only [hn1, hn2, hn3, hn4] at hb); first | (exfalso; omega) | skip)) | (refine t_gs (fun hb => ?_) (fun hb => ?_)) <;> ((try simp only [hn1, hn2] at hb); rw [hb]; try simp only [hn3, hn4] at hb)
    refine t_dr ?_
    repeat' first | refine w_op rfl rfl ?_ | refine x_p rfl ?_ | refine w_sr ?_ | refine st_nil ?_ | refine w_seq ?_ | refine st_region ?_ | refine st_block ?_ | refine w_cond ?_ | refine b_t ?_ | refine b_f ?_ | refine st_skip ?_ | refine st_exit ?_ | refine st_ret ?_ | refine st_onNormN ?_ | refine st_onNormE ?_ | refine st_onNormR ?_ | refine st_onExitN ?_ | refine st_onExitR ?_ | refine st_onExitS ?_ | refine st_onExitO (by decide) ?_ | refine g_t ?_ | refine g_f rfl ?_ | refine o_op rfl ?_ | refine w_wr ?_ | refine w_wn ?_ | refine d_c rfl ?_ | refine d_on rfl ?_ | refine d_op rfl ?_ | refine d_y ?_ | refine d_gd rfl ?_ | refine d_t ?_ | refine d_f ?_ | refine d_nil ?_ | refine w_dr rfl ?_ | refine d_q ?_ | refine w_gd rfl ?_ | ((first | refine zE1 ?_); (conv => arg 1; try simp only [go_sem, Nat.reduceEqDiff, reduceIte, Nat.reduceAdd, Nat.reduceLeDiff, Nat.reduceMul, Int.reduceEq, Int.reduceLT, Int.reduceLE, Int.reduceNeg, Int.reduceAdd, Int.reduceSub, Nat.reduceLT, Nat.reduceBEq, Nat.reduceSub, Nat.reducePow, hat, hadd, strs_len, hcmp, upd_upd]); first | refine zE3 ?_ | refine zE2 ?_ | refine zE4 ?_ | refine zE5 ?_ | refine zE6 ?_ | refine zE7 ?_ | refine zE8 ?_) | (refine w_u false ?_; (conv => arg 1; reduce); refine zR1 ?_) | (refine b_s (fun hb => ?_) (fun hb => ?_) <;> ((try simp only [hn1, hn2, hn3, hn4] at hb); first | (exfalso; omega) | skip)) | (first | refine g_s (fun hb => ?_) (fun hb => ?_) | refine d_s (fun hb => ?_) (fun hb => ?_)) <;> ((try simp only [hn1, hn2] at hb); rw [hb]; try simp only [hn3, hn4] at hb)
    repeat' first | refine t_p rfl ?_ | refine t_sr ?_ | refine t_nil ?_ | refine t_seq ?_ | refine t_region ?_ | refine t_block ?_ | refine t_cond ?_ | refine b_t ?_ | refine b_f ?_ | refine t_skip ?_ | refine t_exit ?_ | refine t_ret ?_ | refine t_onN ?_ | refine t_onE ?_ | refine t_onR ?_ | refine t_onP ?_ | refine t_xN ?_ | refine t_xR ?_ | refine t_xP ?_ | refine t_xS ?_ | refine t_xO (by decide) ?_ | refine t_gt ?_ | refine t_gf rfl ?_ | refine t_wr ?_ | refine t_wn ?_ | refine t_wp ?_ | refine t_on rfl ?_ | refine t_pan rfl ?_ | refine t_mki rfl ?_ | refine t_tas rfl ?_ | refine t_def rfl ?_ | refine t_op rfl ?_ | refine t_gd rfl ?_ | ((first | refine zE1 ?_); (conv => arg 1; try simp only [go_sem, Nat.reduceEqDiff, reduceIte, Nat.reduceAdd, Nat.reduceLeDiff, Nat.reduceMul, Int.reduceEq, Int.reduceLT, Int.reduceLE, Int.reduceNeg, Int.reduceAdd, Int.reduceSub, Nat.reduceLT, Nat.reduceBEq, Nat.reduceSub, Nat.reducePow, Option.map_none, Option.isSome_none, Int.natCast_zero, rep, hat, hadd, hcmp, upd_upd]); first | refine zE3 ?_ | refine zE2 ?_ | refine zE4 ?_ | refine zE5 ?_ | refine zE6 ?_ | refine zE7 ?_ | refine zE8 ?_) | (refine b_s (fun hb => ?_) (fun hb => ?_) <;> ((try simp only [hn1, hn2, hn3, hn4] at hb); first | (exfalso; omega) | skip)) | (refine t_gs (fun hb => ?_) (fun hb => ?_)) <;> ((try simp only [hn1, hn2] at hb); rw [hb]; try simp only [hn3, hn4] at hb)
    refine t_dr ?_
    repeat' first | refine w_op rfl rfl ?_ | refine x_p rfl ?_ | refine w_sr ?_ | refine st_nil ?_ | refine w_seq ?_ | refine st_region ?_ | refine st_block ?_ | refine w_cond ?_ | refine b_t ?_ | refine b_f ?_ | refine st_skip ?_ | refine st_exit ?_ | refine st_ret ?_ | refine st_onNormN ?_ | refine st_onNormE ?_ | refine st_onNormR ?_ | refine st_onExitN ?_ | refine st_onExitR ?_ | refine st_onExitS ?_ | refine st_onExitO (by decide) ?_ | refine g_t ?_ | refine g_f rfl ?_ | refine o_op rfl ?_ | refine w_wr ?_ | refine w_wn ?_ | refine d_c rfl ?_ | refine d_on rfl ?_ | refine d_op rfl ?_ | refine d_y ?_ | refine d_gd rfl ?_ | refine d_t ?_ | refine d_f ?_ | refine d_nil ?_ | refine w_dr rfl ?_ | refine d_q ?_ | refine w_gd rfl ?_ | ((first | refine zE1 ?_); (conv => arg 1; try simp only [go_sem, Nat.reduceEqDiff, reduceIte, Nat.reduceAdd, Nat.reduceLeDiff, Nat.reduceMul, Int.reduceEq, Int.reduceLT, Int.reduceLE, Int.reduceNeg, Int.reduceAdd, Int.reduceSub, Nat.reduceLT, Nat.reduceBEq, Nat.reduceSub, Nat.reducePow, hat, hadd, strs_len, hcmp, hlt', hget, upd_upd]); first | refine zE3 ?_ | refine zE2 ?_ | refine zE4 ?_ | refine zE5 ?_ | refine zE6 ?_ | refine zE7 ?_ | refine zE8 ?_) | (refine w_u false ?_; (conv => arg 1; reduce); refine zR1 ?_) | (refine b_s (fun hb => ?_) (fun hb => ?_) <;> ((try simp only [hn1, hn2, hn3, hn4] at hb); first | (exfalso; omega) | skip)) | (first | refine g_s (fun hb => ?_) (fun hb => ?_) | refine d_s (fun hb => ?_) (fun hb => ?_)) <;> ((try simp only [hn1, hn2] at hb); rw [hb]; try simp only [hn3, hn4] at hb)
    repeat' first | refine t_p rfl ?_ | refine t_sr ?_ | refine t_nil ?_ | refine t_seq ?_ | refine t_region ?_ | refine t_block ?_ | refine t_cond ?_ | refine b_t ?_ | refine b_f ?_ | refine t_skip ?_ | refine t_exit ?_ | refine t_ret ?_ | refine t_onN ?_ | refine t_onE ?_ | refine t_onR ?_ | refine t_onP ?_ | refine t_xN ?_ | refine t_xR ?_ | refine t_xP ?_ | refine t_xS ?_ | refine t_xO (by decide) ?_ | refine t_gt ?_ | refine t_gf rfl ?_ | refine t_wr ?_ | refine t_wn ?_ | refine t_wp ?_ | refine t_on rfl ?_ | refine t_pan rfl ?_ | refine t_mki rfl ?_ | refine t_tas rfl ?_ | refine t_def rfl ?_ | refine t_op rfl ?_ | refine t_gd rfl ?_ | ((first | refine zE1 ?_); (conv => arg 1; try simp only [go_sem, Nat.reduceEqDiff, reduceIte, Nat.reduceAdd, Nat.reduceLeDiff, Nat.reduceMul, Int.reduceEq, Int.reduceLT, Int.reduceLE, Int.reduceNeg, Int.reduceAdd, Int.reduceSub, Nat.reduceLT, Nat.reduceBEq, Nat.reduceSub, Nat.reducePow, Option.map_none, Option.isSome_none, Int.natCast_zero, rep, hat, hadd, hcmp, upd_upd]); first | refine zE3 ?_ | refine zE2 ?_ | refine zE4 ?_ | refine zE5 ?_ | refine zE6 ?_ | refine zE7 ?_ | refine zE8 ?_) | (refine b_s (fun hb => ?_) (fun hb => ?_) <;> ((try simp only [hn1, hn2, hn3, hn4] at hb); first | (exfalso; omega) | skip)) | (refine t_gs (fun hb => ?_) (fun hb => ?_)) <;> ((try simp only [hn1, hn2] at hb); rw [hb]; try simp only [hn3, hn4] at hb)
    exact ⟨rfl, rfl, rfl, rfl⟩
  · intro hge
    have hcmp : ((l.length : Int) ≤ ((s.pos + 1 : Nat) : Int)) = True := eq_true (by omega)
    refine pf_enter (C := Cf G) Tryz.func162 rfl ok162 (by rfl) ?_
    simp only [Tryz.f162, Option.getD_some]
    repeat' first | refine t_p rfl ?_ | refine t_sr ?_ | refine t_nil ?_ | refine t_seq ?_ | refine t_region ?_ | refine t_block ?_ | refine t_cond ?_ | refine b_t ?_ | refine b_f ?_ | refine t_skip ?_ | refine t_exit ?_ | refine t_ret ?_ | refine t_onN ?_ | refine t_onE ?_ | refine t_onR ?_ | refine t_onP ?_ | refine t_xN ?_ | refine t_xR ?_ | refine t_xP ?_ | refine t_xS ?_ | refine t_xO (by decide) ?_ | refine t_gt ?_ | refine t_gf rfl ?_ | refine t_wr ?_ | refine t_wn ?_ | refine t_wp ?_ | refine t_on rfl ?_ | refine t_pan rfl ?_ | refine t_mki rfl ?_ | refine t_tas rfl ?_ | refine t_def rfl ?_ | refine t_op rfl ?_ | refine t_gd rfl ?_ | ((first | refine zE1 ?_); (conv => arg 1; try simp only [go_sem, Nat.reduceEqDiff, reduceIte, Nat.reduceAdd, Nat.reduceLeDiff, Nat.reduceMul, Int.reduceEq, Int.reduceLT, Int.reduceLE, Int.reduceNeg, Int.reduceAdd, Int.reduceSub, Nat.reduceLT, Nat.reduceBEq, Nat.reduceSub, Nat.reducePow, Option.map_none, Option.isSome_none, Int.natCast_zero, rep, hat, hadd]); first | refine zE3 ?_ | refine zE2 ?_ | refine zE4 ?_ | refine zE5 ?_ | refine zE6 ?_ | refine zE7 ?_ | refine zE8 ?_) | (refine b_s (fun hb => ?_) (fun hb => ?_) <;> ((try simp only [hn1, hn2, hn3, hn4] at hb); first | (exfalso; omega) | skip)) | (refine t_gs (fun hb => ?_) (fun hb => ?_)) <;> ((try simp only [hn1, hn2] at hb); rw [hb]; try simp only [hn3, hn4] at hb)
    refine t_dr ?_
    repeat' first | refine w_op rfl rfl ?_ | refine x_p rfl ?_ | refine w_sr ?_ | refine st_nil ?_ | refine w_seq ?_ | refine st_region ?_ | refine st_block ?_ | refine w_cond ?_ | refine b_t ?_ | refine b_f ?_ | refine st_skip ?_ | refine st_exit ?_ | refine st_ret ?_ | refine st_onNormN ?_ | refine st_onNormE ?_ | refine st_onNormR ?_ | refine st_onExitN ?_ | refine st_onExitR ?_ | refine st_onExitS ?_ | refine st_onExitO (by decide) ?_ | refine g_t ?_ | refine g_f rfl ?_ | refine o_op rfl ?_ | refine w_wr ?_ | refine w_wn ?_ | refine d_c rfl ?_ | refine d_on rfl ?_ | refine d_op rfl ?_ | refine d_y ?_ | refine d_gd rfl ?_ | refine d_t ?_ | refine d_f ?_ | refine d_nil ?_ | refine w_dr rfl ?_ | refine d_q ?_ | refine w_gd rfl ?_ | ((first | refine zE1 ?_); (conv => arg 1; try simp only [go_sem, Nat.reduceEqDiff, reduceIte, Nat.reduceAdd, Nat.reduceLeDiff, Nat.reduceMul, Int.reduceEq, Int.reduceLT, Int.reduceLE, Int.reduceNeg, Int.reduceAdd, Int.reduceSub, Nat.reduceLT, Nat.reduceBEq, Nat.reduceSub, Nat.reducePow, hat, hadd, strs_len, hcmp, upd_upd]); first | refine zE3 ?_ | refine zE2 ?_ | refine zE4 ?_ | refine zE5 ?_ | refine zE6 ?_ | refine zE7 ?_ | refine zE8 ?_) | (refine w_u false ?_; (conv => arg 1; reduce); refine zR1 ?_) | (refine b_s (fun hb => ?_) (fun hb => ?_) <;> ((try simp only [hn1, hn2, hn3, hn4] at hb); first | (exfalso; omega) | skip)) | (first | refine g_s (fun hb => ?_) (fun hb => ?_) | refine d_s (fun hb => ?_) (fun hb => ?_)) <;> ((try simp only [hn1, hn2] at hb); rw [hb]; try simp only [hn3, hn4] at hb)
    repeat' first | refine t_p rfl ?_ | refine t_sr ?_ | refine t_nil ?_ | refine t_seq ?_ | refine t_region ?_ | refine t_block ?_ | refine t_cond ?_ | refine b_t ?_ | refine b_f ?_ | refine t_skip ?_ | refine t_exit ?_ | refine t_ret ?_ | refine t_onN ?_ | refine t_onE ?_ | refine t_onR ?_ | refine t_onP ?_ | refine t_xN ?_ | refine t_xR ?_ | refine t_xP ?_ | refine t_xS ?_ | refine t_xO (by decide) ?_ | refine t_gt ?_ | refine t_gf rfl ?_ | refine t_wr ?_ | refine t_wn ?_ | refine t_wp ?_ | refine t_on rfl ?_ | refine t_pan rfl ?_ | refine t_mki rfl ?_ | refine t_tas rfl ?_ | refine t_def rfl ?_ | refine t_op rfl ?_ | refine t_kR (pf78 G _ _ _ _ _) rfl ?_ | refine t_kP (pf78 G _ _ _ _ _) ?_ | refine t_n0 rfl ?_ | refine t_gd rfl ?_ | ((first | refine zE1 ?_ | refine t_cl rfl ?_); (conv => arg 1; try simp only [go_sem, Nat.reduceEqDiff, reduceIte, Nat.reduceAdd, Nat.reduceLeDiff, Nat.reduceMul, Int.reduceEq, Int.reduceLT, Int.reduceLE, Int.reduceNeg, Int.reduceAdd, Int.reduceSub, Nat.reduceLT, Nat.reduceBEq, Nat.reduceSub, Nat.reducePow, Option.map_none, Option.isSome_none, Int.natCast_zero, rep, hat, hadd, hcmp, upd_upd, strs_len]); first | refine zE3 ?_ | refine zE2 ?_ | refine zE4 ?_ | refine zE5 ?_ | refine zE6 ?_ | refine zE7 ?_ | refine zE8 ?_) | (refine b_s (fun hb => ?_) (fun hb => ?_) <;> ((try simp only [hn1, hn2, hn3, hn4] at hb); first | (exfalso; omega) | skip)) | (refine t_gs (fun hb => ?_) (fun hb => ?_)) <;> ((try simp only [hn1, hn2] at hb); rw [hb]; try simp only [hn3, hn4] at hb)
    exact ⟨rfl, rfl, rfl, rfl⟩
set_option maxRecDepth 100000 in
set_option maxHeartbeats 1000000 in
theorem pf115s (G : Nat → Option (List AV)) (jb : Bool) (l : List ByteArray) (hlen : l.length ≤ 1000) (s : PS) (h : Heap) (n : Nat) (hp : s.pos < l.length) (hq : l.length ≤ s.pos + 2) (hh : h 4 = some (.cells (s.cells (.psl (strs l) l.length)) 0 false)) :
    PfP (Cf G) 115 [.ptr 4 0, .sc (.bool jb)] h n (.ifc 83 (.agg [.sc (.int .i64 l.length), .sc (.int .i64 8)])) (pHeap h (.psl (strs l) l.length) { s with pos := l.length }) n := by
  obtain ⟨ha, hb⟩ := pf162 G l hlen s h n hp hh
  by_cases hge : l.length ≤ s.pos + 1
  · have e : s.pos + 1 = l.length := by omega
    have hc := hb hge
    refine pf_enter (C := Cf G) Tryz.func115 rfl ok115 (by rfl) ?_
    simp only [Tryz.f115, Option.getD_some]
    repeat' first | refine t_p rfl ?_ | refine t_sr ?_ | refine t_nil ?_ | refine t_seq ?_ | refine t_region ?_ | refine t_block ?_ | refine t_cond ?_ | refine b_t ?_ | refine b_f ?_ | refine t_skip ?_ | refine t_exit ?_ | refine t_ret ?_ | refine t_onN ?_ | refine t_onE ?_ | refine t_onR ?_ | refine t_onP ?_ | refine t_xN ?_ | refine t_xR ?_ | refine t_xP ?_ | refine t_xS ?_ | refine t_xO (by decide) ?_ | refine t_gt ?_ | refine t_gf rfl ?_ | refine t_wr ?_ | refine t_wn ?_ | refine t_wp ?_ | refine t_on rfl ?_ | refine t_pan rfl ?_ | refine t_mki rfl ?_ | refine t_tas rfl ?_ | refine t_def rfl ?_ | refine t_op rfl ?_ | refine t_kR (hc) rfl ?_ | refine t_kP (hc) ?_ | refine t_n0 rfl ?_ | refine t_gd rfl ?_ | ((first | refine zE1 ?_ | refine t_cl rfl ?_); (conv => arg 1; try simp only [go_sem, Nat.reduceEqDiff, reduceIte, Nat.reduceAdd, Nat.reduceLeDiff, Nat.reduceMul, Int.reduceEq, Int.reduceLT, Int.reduceLE, Int.reduceNeg, Int.reduceAdd, Int.reduceSub, Nat.reduceLT, Nat.reduceBEq, Nat.reduceSub, Nat.reducePow, Option.map_none, Option.isSome_none, Int.natCast_zero, rep]); first | refine zE3 ?_ | refine zE2 ?_ | refine zE4 ?_ | refine zE5 ?_ | refine zE6 ?_ | refine zE7 ?_ | refine zE8 ?_) | (refine b_s (fun hb => ?_) (fun hb => ?_) <;> ((try simp only [hn1, hn2, hn3, hn4] at hb); first | (exfalso; omega) | skip)) | (refine t_gs (fun hb => ?_) (fun hb => ?_)) <;> ((try simp only [hn1, hn2] at hb); rw [hb]; try simp only [hn3, hn4] at hb)
    rw [e]
    exact ⟨rfl, rfl, rfl, rfl⟩
  · have hlt : s.pos + 1 < l.length := by omega
    have e : s.pos + 1 + 1 = l.length := by omega
    have hc := ha l[s.pos + 1] (List.getElem?_eq_getElem hlt)
    have hc2 := (pf162 G l hlen { s with pos := s.pos + 1 } (pHeap h (.psl (strs l) l.length) { s with pos := s.pos + 1 }) n hlt (pHeap_at _ _ _)).2 (by show _ ≤ s.pos + 1 + 1; omega)
    rw [pHeap_pHeap] at hc2
    refine pf_enter (C := Cf G) Tryz.func115 rfl ok115 (by rfl) ?_
    simp only [Tryz.f115, Option.getD_some]
    repeat' first | refine t_p rfl ?_ | refine t_sr ?_ | refine t_nil ?_ | refine t_seq ?_ | refine t_region ?_ | refine t_block ?_ | refine t_cond ?_ | refine b_t ?_ | refine b_f ?_ | refine t_skip ?_ | refine t_exit ?_ | refine t_ret ?_ | refine t_onN ?_ | refine t_onE ?_ | refine t_onR ?_ | refine t_onP ?_ | refine t_xN ?_ | refine t_xR ?_ | refine t_xP ?_ | refine t_xS ?_ | refine t_xO (by decide) ?_ | refine t_gt ?_ | refine t_gf rfl ?_ | refine t_wr ?_ | refine t_wn ?_ | refine t_wp ?_ | refine t_on rfl ?_ | refine t_pan rfl ?_ | refine t_mki rfl ?_ | refine t_tas rfl ?_ | refine t_def rfl ?_ | refine t_op rfl ?_ | refine t_kR (hc) rfl ?_ | refine t_kP (hc) ?_ | refine t_kR (hc2) rfl ?_ | refine t_kP (hc2) ?_ | refine t_n0 rfl ?_ | refine t_gd rfl ?_ | ((first | refine zE1 ?_ | refine t_cl rfl ?_); (conv => arg 1; try simp only [go_sem, Nat.reduceEqDiff, reduceIte, Nat.reduceAdd, Nat.reduceLeDiff, Nat.reduceMul, Int.reduceEq, Int.reduceLT, Int.reduceLE, Int.reduceNeg, Int.reduceAdd, Int.reduceSub, Nat.reduceLT, Nat.reduceBEq, Nat.reduceSub, Nat.reducePow, Option.map_none, Option.isSome_none, Int.natCast_zero, rep]); first | refine zE3 ?_ | refine zE2 ?_ | refine zE4 ?_ | refine zE5 ?_ | refine zE6 ?_ | refine zE7 ?_ | refine zE8 ?_) | (refine b_s (fun hb => ?_) (fun hb => ?_) <;> ((try simp only [hn1, hn2, hn3, hn4] at hb); first | (exfalso; omega) | skip)) | (refine t_gs (fun hb => ?_) (fun hb => ?_)) <;> ((try simp only [hn1, hn2] at hb); rw [hb]; try simp only [hn3, hn4] at hb)
    show _ ∧ _ ∧ pHeap h _ { s with pos := s.pos + 1 + 1 } = _ ∧ _
    rw [e]
    exact ⟨rfl, rfl, rfl, rfl⟩
def argW : ByteArray := ⟨#[45, 45, 97, 114, 103]⟩
theorem preB_arg : preB argW = true := by
  unfold preB
  rw [if_pos (by decide), ByteArray.toList_eq, ByteArray.toList_eq]
  rfl
set_option maxRecDepth 100000 in
set_option maxHeartbeats 1000000 in
theorem pf77a (G : Nat → Option (List AV)) (l : List ByteArray) (hlen : l.length ≤ 1000) (s : PS) (hpl : s.pl = false) (h : Heap) (n : Nat) (hp : s.pos < l.length) (hq : l.length ≤ s.pos + 2) (hh : h 4 = some (.cells (s.cells (.psl (strs l) l.length)) 0 false)) :
    Pf (Cf G) 77 [.ptr 4 0, .sc (.string argW)] h n (wordQ h n (.psl (strs l) l.length) (some (l.length, 8), { s with pos := l.length })) := by
  refine pf_enter (C := Cf G) Tryz.func77 rfl ok77 (by rfl) ?_
  simp only [Tryz.f77, Option.getD_some]
  have hat := hh
  simp only [PS.cells] at hat
  have hpc := pc113 G argW
  have e1 : (argW.toList == (⟨#[45]⟩ : ByteArray).toList) = false := by rw [ByteArray.toList_eq, ByteArray.toList_eq]; rfl
  have e2 : (argW.toList == (⟨#[45, 45]⟩ : ByteArray).toList) = false := by rw [ByteArray.toList_eq, ByteArray.toList_eq]; rfl
  have e3 : (argW.toList == (⟨#[45, 45, 105, 110, 100, 101, 110, 116]⟩ : ByteArray).toList) = false := by rw [ByteArray.toList_eq, ByteArray.toList_eq]; rfl
  have e4 : (argW.toList == (⟨#[45, 45, 97, 114, 103]⟩ : ByteArray).toList) = true := by rw [ByteArray.toList_eq, ByteArray.toList_eq]; rfl
  have e5 : (argW.toList == (⟨#[45, 45, 97, 114, 103, 106, 115, 111, 110]⟩ : ByteArray).toList) = false := by rw [ByteArray.toList_eq, ByteArray.toList_eq]; rfl
  have hv := pf115s G false l hlen s h n hp hq hh
  repeat' first | refine t_p rfl ?_ | refine t_sr ?_ | refine t_nil ?_ | refine t_seq ?_ | refine t_region ?_ | refine t_block ?_ | refine t_cond ?_ | refine b_t ?_ | refine b_f ?_ | refine t_skip ?_ | refine t_exit ?_ | refine t_ret ?_ | refine t_onN ?_ | refine t_onE ?_ | refine t_onR ?_ | refine t_onP ?_ | refine t_xN ?_ | refine t_xR ?_ | refine t_xP ?_ | refine t_xS ?_ | refine t_xO (by decide) ?_ | refine t_gt ?_ | refine t_gf rfl ?_ | refine t_wr ?_ | refine t_wn ?_ | refine t_wp ?_ | refine t_on rfl ?_ | refine t_pan rfl ?_ | refine t_mki rfl ?_ | refine t_tas rfl ?_ | refine t_def rfl ?_ | refine t_op rfl ?_ | refine t_k (k_p rfl rfl rfl rfl (hpc) ?_) | refine t_kR (hv) rfl ?_ | refine t_kP (hv) ?_ | refine t_n0 rfl ?_ | refine t_gd rfl ?_ | ((first | refine zE1 ?_ | refine t_cl rfl ?_); (conv => arg 1; try simp only [go_sem, Nat.reduceEqDiff, reduceIte, Nat.reduceAdd, Nat.reduceLeDiff, Nat.reduceMul, Int.reduceEq, Int.reduceLT, Int.reduceLE, Int.reduceNeg, Int.reduceAdd, Int.reduceSub, Nat.reduceLT, Nat.reduceBEq, Nat.reduceSub, Nat.reducePow, Option.map_none, Option.isSome_none, Int.natCast_zero, rep, hat, hpl, e1, e2, e3, e4, e5, preB_arg]); first | refine zE3 ?_ | refine zE2 ?_ | refine zE4 ?_ | refine zE5 ?_ | refine zE6 ?_ | refine zE7 ?_ | refine zE8 ?_) | (refine b_s (fun hb => ?_) (fun hb => ?_) <;> ((try simp only [hn1, hn2, hn3, hn4] at hb); first | (exfalso; omega) | skip)) | (refine t_gs (fun hb => ?_) (fun hb => ?_)) <;> ((try simp only [hn1, hn2] at hb); rw [hb]; try simp only [hn3, hn4] at hb)
  exact ⟨rfl, rfl, rfl, rfl⟩
def wordA (l : List ByteArray) (w : ByteArray) (s : PS) : Option (Nat × Int) × PS :=
  if !s.pl && (w.toList == argW.toList) then (some (l.length, 8), { s with pos := l.length }) else wordF w s
def shortB (w : ByteArray) : Bool := !(w.toList == (⟨#[45, 45, 105, 110, 100, 101, 110, 116]⟩ : ByteArray).toList) && !(w.toList == (⟨#[45, 45, 97, 114, 103]⟩ : ByteArray).toList) && !(w.toList == (⟨#[45, 45, 97, 114, 103, 106, 115, 111, 110]⟩ : ByteArray).toList)
def okNow (l : List ByteArray) (w : ByteArray) (s : PS) : Bool := s.pl || shortB w || ((w.toList == argW.toList) && decide (l.length ≤ s.pos + 2))
def runV (l : List ByteArray) : Nat → PS → Bool
  | 0, s => decide (l.length ≤ s.pos)
  | k + 1, s =>
    match l[s.pos]? with
    | none => true
    | some w =>
      okNow l w s && match wordA l w s with
      | (some _, _) => true
      | (none, s') => runV l k { s' with pos := s'.pos + 1 }
theorem letters_same : (l : List UInt8) → (s : PS) → (lettersF l s).2.pos = s.pos ∧ (lettersF l s).2.nm = s.nm
  | [], s => ⟨rfl, rfl⟩
  | c :: l, s => by
    rw [lettersF]
    cases h : letterF c.toNat s with
    | none => exact ⟨rfl, rfl⟩
    | some s' =>
      have h1 := letters_same l s'
      have h2 : s'.nm = s.nm := by
        unfold letterF at h
        repeat' split at h
        all_goals first | (injection h with h; subst h; rfl) | cases h
      exact ⟨h1.1.trans (letter_pos h), h1.2.trans h2⟩
theorem wordF_same (w : ByteArray) (s : PS) : (wordF w s).2.pos = s.pos ∧ (wordF w s).2.nm = s.nm := by
  unfold wordF
  split
  · split
    · exact ⟨rfl, rfl⟩
    · split <;> exact ⟨rfl, rfl⟩
  · split
    · exact ⟨rfl, rfl⟩
    · exact letters_same _ s
theorem bytes_eq {a b : ByteArray} (h : (a.toList == b.toList) = true) : a = b := by
  rw [ByteArray.toList_eq, ByteArray.toList_eq, beq_iff_eq] at h
  obtain ⟨⟨x⟩⟩ := a
  obtain ⟨⟨y⟩⟩ := b
  simp only at h
  subst h
  rfl
theorem wordsA (G : Nat → Option (List AV)) (l : List ByteArray) (hlen : l.length ≤ 1000) (hsz : ∀ w ∈ l, w.size ≤ 140737488355328) : WordsOk G l (wordA l) (fun s => ∃ k, runV l k s = true) := by
  rintro w s h n hw ⟨k, hk⟩ hnm h5 hh
  have hlt : s.pos < l.length := (List.getElem?_eq_some_iff.1 hw).1
  have hws := hsz w (List.mem_of_getElem? hw)
  cases k with
  | zero =>
    simp only [runV, decide_eq_true_eq] at hk
    omega
  | succ k =>
    rw [runV, hw] at hk
    simp only [Bool.and_eq_true] at hk
    obtain ⟨hok, hk⟩ := hk
    have hnext : (wordA l w s).1 = none → ∃ k, runV l k { (wordA l w s).2 with pos := (wordA l w s).2.pos + 1 } = true := by
      intro e
      generalize wordA l w s = r at hk e
      obtain ⟨er, s'⟩ := r
      simp only at e
      subst e
      exact ⟨k, hk⟩
    have main : Pf (Cf G) 77 [.ptr 4 0, .sc (.string w)] h n (wordG h n (.psl (strs l) l.length) (wordA l w s)) ∧ s.pos ≤ (wordA l w s).2.pos ∧ (wordA l w s).2.pos ≤ l.length ∧ (wordA l w s).2.nm = .nilS := by
      unfold okNow at hok
      unfold wordA
      cases ha : (!s.pl && (w.toList == argW.toList)) with
      | true =>
        rw [if_pos rfl]
        simp only [Bool.and_eq_true, Bool.not_eq_true'] at ha
        have hwa := bytes_eq ha.2
        subst hwa
        have hnot : shortB argW = false := by
          unfold shortB
          have : (argW.toList == (⟨#[45, 45, 97, 114, 103]⟩ : ByteArray).toList) = true := ha.2
          rw [this]
          simp
        rw [ha.1, hnot] at hok
        simp only [Bool.false_or, Bool.and_eq_true, decide_eq_true_eq] at hok
        exact ⟨(pf77a G l hlen s ha.1 h n hlt hok.2 hh).mono fun p v h' n' q => q.gen, by show s.pos ≤ l.length; omega, Nat.le_refl _, hnm⟩
      | false =>
        rw [if_neg (by simp)]
        have hs := wordF_same w s
        refine ⟨(pf77 G w s hws (fun hpl => ?_) _ h n hh).mono fun p v h' n' q => q.gen, by rw [hs.1]; omega, by rw [hs.1]; omega, hs.2.trans hnm⟩
        rw [hpl] at hok ha
        simp only [Bool.not_false, Bool.true_and] at ha
        rw [ha] at hok
        simp only [Bool.false_or, Bool.false_and, Bool.or_false] at hok
        simp only [shortB, Bool.and_eq_true, Bool.not_eq_true'] at hok
        exact ⟨hok.1.1, hok.1.2, hok.2⟩
    exact ⟨main.1, main.2.1, main.2.2.1, main.2.2.2, hnext⟩
theorem pf14A (G : Nat → Option (List AV)) (l : List ByteArray) (hlen : l.length ≤ 64) (hsz : ∀ w ∈ l, w.size ≤ 140737488355328) (hrun : runV l l.length ps0 = true) :
    Pf (Cf G) 14 [.psl (strs l) l.length] noHeap 0 fun p v h' _ => p = false ∧ (frz h' 64 v).map (·.1) = some (parseR (wordA l) l) :=
  pf14 G l hlen (wordA l) _ ⟨_, hrun⟩ (wordsA G l (by omega) hsz)
end Go.Proofs.Bv
