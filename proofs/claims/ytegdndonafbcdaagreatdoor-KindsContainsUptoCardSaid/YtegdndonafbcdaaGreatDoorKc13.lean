/-
  A part of the proof of KindsContainsUptoCardSaid: BkRunes, BkNat2, BkNat3, BkNat4, BkR111, BkChk, BkCount, BkLetters, BkRev, BkTexts, BkNat5, BkMul, BkAdd, BkLim, BkParse, BkParse2, BkPrint, BkDec, BkStrip, BkSettle, BkSettle2, BkWalk, BkWalk2.
  Conditions: those that each part names.
-/
import Derived.Test.YtegdndonafbcdaaGreatDoorKc12
import Derived.Lib.TrimU
import Derived.Lib.QuoteLoop
import Derived.Lib.RuneCountTail
set_option linter.unusedSimpArgs false
set_option linter.unusedVariables false
namespace Go.Proofs.Bv
open Go
def runeAt (s : ByteArray) (p : Nat) : Int :=
  if ((Lib.decodeGo (s.extract p s.size)).1 : Int) = 65533 ∧ ((Lib.decodeGo (s.extract p s.size)).2 : Int) = 1 then -1 else (Lib.decodeGo (s.extract p s.size)).1
def wideAt (s : ByteArray) (p : Nat) : Nat := (Lib.decodeGo (s.extract p s.size)).2
theorem wide_rng (s : ByteArray) (p : Nat) (hp : p < s.size) : 1 ≤ wideAt s p ∧ p + wideAt s p ≤ s.size := by
  have hs : (s.extract p s.size).size = s.size - p := by simp
  have h0 : ¬ (s.extract p s.size).size = 0 := by omega
  have h1 := Lib.width_pos (s.extract p s.size) 0
  have h2 := Lib.width_le (s.extract p s.size) (by omega)
  unfold wideAt Lib.decodeGo
  rw [if_neg h0]
  omega
theorem st_wk {C : Cfg} {nt n : Nat} {h : Heap} {T : Nat → AV} {ops : Array Oper} {o : Oper} {l : List Oper} {Q : St → Prop} {f : Operand} {ars : Array Operand} {ts : Array TypeId} {fv : AV} {args : List AV}
    (hop : o.op = .call { callee := .value f, args := ars, argTypes := ts }) (hg : goes ops T o = some true) (hf : val C T f = fv) (ha : ars.toList.map (val C T) = args)
    (hw : Wk C fv args h n (Gn C nt n T o.dst ops l Q)) : Gw C nt ops (o :: l) ⟨T, h, n⟩ Q := by
  refine ⟨?_⟩
  rw [Wo_cons, hg, Wg_true, hop, Ws_call, hf, ha]
  obtain ⟨k, v, h', n', e1, e2⟩ := hw
  refine ⟨k, v, h', n', e1, e2.le, ?_⟩
  have := e2.go
  simp only [Gw_eq] at this
  exact this
theorem ok171 : codeOk 31 (Tryz.f171.body.getD .skip) = true := by kernel_rfl
set_option maxHeartbeats 2000000 in
theorem gf171 (G : Nat → Option (List AV)) (s : ByteArray) (hn : s.size ≤ 140737488355328) (b : Nat) (I : Nat → Heap → Nat → Prop) (Q : AV → Heap → Nat → Prop)
    (hround : ∀ p h n (K : AV → Heap → Nat → Prop), I p h n → p < s.size → (∀ h' n', n ≤ n' → I (p + wideAt s p) h' n' → K (.sc (.bool true)) h' n') → (∀ h' n', n ≤ n' → Q (.tup []) h' n' → K (.sc (.bool false)) h' n') →
      Wk (Cf G) (.fn (.yield b) []) [.sc (.int .i64 p), .sc (.int .i32 (runeAt s p))] h n K)
    (hend : ∀ h n, I s.size h n → Q (.tup []) h n) {h : Heap} {n : Nat} (hI : I 0 h n) : Gf (Cf G) 171 [.fn (.yield b) [], .pptr [.sc (.string s)] 0] h n Q := by
  refine Gf_enter (C := Cf G) Tryz.func171 rfl ok171 (Nat.le_of_ble_eq_true rfl) ?_
  simp only [Tryz.f171, Option.getD_some]
  refine wB1 trivial ?_
  refine Gc_loop_inv (fun m st => ∃ p : Nat, p ≤ s.size ∧ m = s.size - p ∧ st.T 0 = .fn (.yield b) [] ∧ st.T 1 = .pptr [.sc (.string s)] 0 ∧ st.T 3 = .sc (.int .i64 p) ∧ I p st.h st.n) ?_ s.size _ ⟨0, by omega, by omega, ?_⟩
  · rintro m ⟨T, h, n⟩ ⟨p, hp, rfl, h0, h1, h3, hI⟩
    simp only at h0 h1 h3 hI
    by_cases hlt : p < s.size
    · have hlt' : (p : Int) < (s.size : Int) := by omega
      have hbd : bnds s.size (some (.sc (.int .i64 (p : Int)))) none = some (p, s.size) := by simp [bnds, asNat]; omega
      obtain ⟨c, hc⟩ : ∃ c, (Lib.decodeGo (s.extract p s.size)).1 = c := ⟨_, rfl⟩
      obtain ⟨w, hwd⟩ : ∃ w, (Lib.decodeGo (s.extract p s.size)).2 = w := ⟨_, rfl⟩
      have hwr := wide_rng s p hlt
      have hrd := hround p h n
      unfold runeAt at hrd
      unfold wideAt at hwr hrd
      rw [hc, hwd] at hrd
      rw [hwd] at hwr
      have hadd : IntKind.i64.wrap ((p : Int) + (w : Int)) = ((p + w : Nat) : Int) := by rw [i64 (by omega) (by omega)]; omega
      have hadd1 : (w : Int) = 1 → IntKind.i64.wrap ((p : Int) + 1) = (p : Int) + (w : Int) := fun h => by rw [i64 (by omega) (by omega)]; omega
      by_cases h65 : (c : Int) = 65533
      · by_cases hw1 : (w : Int) = 1
        · rw [if_pos ⟨h65, hw1⟩] at hrd
          refine wC1 (wa h0 (wa h1 (wa h3 (wa hlt' (wa hbd (wa hc (wa hwd (wa h65 hw1)))))))) trivial ?_
          refine st_wk rfl rfl (by simp only [vop, val, argsT, upd_ap, Nat.reduceEqDiff, if_true, if_false, ite_true, ite_false, reduceIte, loadAt, loadA, AV.cells, AV.one, List.all_cons, List.all_nil, ofV, ofCell, plain, List.getElem?_cons_zero, List.getElem?_cons_succ, List.getElem?_toArray, Option.getD_some, Bool.not_true, Bool.not_false, Bool.false_eq_true, Bool.and_true, Bool.true_and, Bool.and_self, Nat.zero_add, Option.map_some, Option.bind_some, List.map_cons, List.map_nil, ev_add, ev_sub, ev_mul, ev_lss, ev_leq, ev_gtr, ev_geq, ev_eql, ev_neq, ev_seql, ev_sneq, ev_sleq, ev_slss, ev_not, ev_min, ev_max, asNat_nat, asNat_zero, asNat_one, asNat_two, asNat_three, vb_len, List.length_cons, List.length_nil, Nat.reduceAdd, Nat.reduceLeDiff, Nat.reduceMul, Int.reduceEq, Int.reduceLT, Int.reduceLE, Int.reduceNeg, Int.reduceAdd, Int.reduceSub, Nat.reduceLT, decide_true, decide_false, not_true_eq_false, not_false_eq_true, and_self, and_true, true_and, storeA, List.take_zero, List.drop_succ_cons, List.drop_zero, List.nil_append, List.append_nil, List.take_succ_cons, List.cons_append, cut_cons, cut_zero, cut_skip, tAt, hHide, hAt, upsAt, List.contains_cons, List.contains_nil, Nat.reduceBEq, Bool.or_true, Bool.true_or, Bool.or_false, Bool.false_or, Bool.or_self, Bool.and_true, Bool.true_and, Bool.and_false, Bool.false_and, beq_self_eq_true (α := Nat), Option.some_beq_some, Option.none_beq_some, Option.some_beq_none, Bool.false_eq_true, List.all_nil, touch, touchB, Nat.sub_self, List.range'_zero, Nat.add_sub_cancel_left, List.range'_one, h0]) (by simp only [vop, val, argsT, upd_ap, Nat.reduceEqDiff, if_true, if_false, ite_true, ite_false, reduceIte, loadAt, loadA, AV.cells, AV.one, List.all_cons, List.all_nil, ofV, ofCell, plain, List.getElem?_cons_zero, List.getElem?_cons_succ, List.getElem?_toArray, Option.getD_some, Bool.not_true, Bool.not_false, Bool.false_eq_true, Bool.and_true, Bool.true_and, Bool.and_self, Nat.zero_add, Option.map_some, Option.bind_some, List.map_cons, List.map_nil, ev_add, ev_sub, ev_mul, ev_lss, ev_leq, ev_gtr, ev_geq, ev_eql, ev_neq, ev_seql, ev_sneq, ev_sleq, ev_slss, ev_not, ev_min, ev_max, asNat_nat, asNat_zero, asNat_one, asNat_two, asNat_three, vb_len, List.length_cons, List.length_nil, Nat.reduceAdd, Nat.reduceLeDiff, Nat.reduceMul, Int.reduceEq, Int.reduceLT, Int.reduceLE, Int.reduceNeg, Int.reduceAdd, Int.reduceSub, Nat.reduceLT, decide_true, decide_false, not_true_eq_false, not_false_eq_true, and_self, and_true, true_and, storeA, List.take_zero, List.drop_succ_cons, List.drop_zero, List.nil_append, List.append_nil, List.take_succ_cons, List.cons_append, cut_cons, cut_zero, cut_skip, tAt, hHide, hAt, upsAt, List.contains_cons, List.contains_nil, Nat.reduceBEq, Bool.or_true, Bool.true_or, Bool.or_false, Bool.false_or, Bool.or_self, Bool.and_true, Bool.true_and, Bool.and_false, Bool.false_and, beq_self_eq_true (α := Nat), Option.some_beq_some, Option.none_beq_some, Option.some_beq_none, Bool.false_eq_true, List.all_nil, touch, touchB, Nat.sub_self, List.range'_zero, Nat.add_sub_cancel_left, List.range'_one, h0, h3, h65]) (hrd _ hI hlt (fun h' n' hn' hI' => st_gn hn' rfl ?_) (fun h' n' hn' hq => st_gn hn' rfl ?_))
          · refine wB1 (wa h0 (wa h1 (wa h3 hadd))) ?_
            refine ⟨s.size - (p + w), by omega, p + w, by omega, rfl, ?_, ?_, ?_, hI'⟩
            all_goals first | (simp [upd_ap, h0, h1]; done) | (simp [upd_ap, h0, h1]; exact hadd1 hw1)
          · refine wB1 (wa h0 (wa h1 h3)) ?_
            exact hq
        · rw [if_neg (by omega)] at hrd
          refine wC1 (wa h0 (wa h1 (wa h3 (wa hlt' (wa hbd (wa hc (wa hwd (wa h65 hw1)))))))) trivial ?_
          refine st_wk rfl rfl (by simp only [vop, val, argsT, upd_ap, Nat.reduceEqDiff, if_true, if_false, ite_true, ite_false, reduceIte, loadAt, loadA, AV.cells, AV.one, List.all_cons, List.all_nil, ofV, ofCell, plain, List.getElem?_cons_zero, List.getElem?_cons_succ, List.getElem?_toArray, Option.getD_some, Bool.not_true, Bool.not_false, Bool.false_eq_true, Bool.and_true, Bool.true_and, Bool.and_self, Nat.zero_add, Option.map_some, Option.bind_some, List.map_cons, List.map_nil, ev_add, ev_sub, ev_mul, ev_lss, ev_leq, ev_gtr, ev_geq, ev_eql, ev_neq, ev_seql, ev_sneq, ev_sleq, ev_slss, ev_not, ev_min, ev_max, asNat_nat, asNat_zero, asNat_one, asNat_two, asNat_three, vb_len, List.length_cons, List.length_nil, Nat.reduceAdd, Nat.reduceLeDiff, Nat.reduceMul, Int.reduceEq, Int.reduceLT, Int.reduceLE, Int.reduceNeg, Int.reduceAdd, Int.reduceSub, Nat.reduceLT, decide_true, decide_false, not_true_eq_false, not_false_eq_true, and_self, and_true, true_and, storeA, List.take_zero, List.drop_succ_cons, List.drop_zero, List.nil_append, List.append_nil, List.take_succ_cons, List.cons_append, cut_cons, cut_zero, cut_skip, tAt, hHide, hAt, upsAt, List.contains_cons, List.contains_nil, Nat.reduceBEq, Bool.or_true, Bool.true_or, Bool.or_false, Bool.false_or, Bool.or_self, Bool.and_true, Bool.true_and, Bool.and_false, Bool.false_and, beq_self_eq_true (α := Nat), Option.some_beq_some, Option.none_beq_some, Option.some_beq_none, Bool.false_eq_true, List.all_nil, touch, touchB, Nat.sub_self, List.range'_zero, Nat.add_sub_cancel_left, List.range'_one, h0]) (by simp only [vop, val, argsT, upd_ap, Nat.reduceEqDiff, if_true, if_false, ite_true, ite_false, reduceIte, loadAt, loadA, AV.cells, AV.one, List.all_cons, List.all_nil, ofV, ofCell, plain, List.getElem?_cons_zero, List.getElem?_cons_succ, List.getElem?_toArray, Option.getD_some, Bool.not_true, Bool.not_false, Bool.false_eq_true, Bool.and_true, Bool.true_and, Bool.and_self, Nat.zero_add, Option.map_some, Option.bind_some, List.map_cons, List.map_nil, ev_add, ev_sub, ev_mul, ev_lss, ev_leq, ev_gtr, ev_geq, ev_eql, ev_neq, ev_seql, ev_sneq, ev_sleq, ev_slss, ev_not, ev_min, ev_max, asNat_nat, asNat_zero, asNat_one, asNat_two, asNat_three, vb_len, List.length_cons, List.length_nil, Nat.reduceAdd, Nat.reduceLeDiff, Nat.reduceMul, Int.reduceEq, Int.reduceLT, Int.reduceLE, Int.reduceNeg, Int.reduceAdd, Int.reduceSub, Nat.reduceLT, decide_true, decide_false, not_true_eq_false, not_false_eq_true, and_self, and_true, true_and, storeA, List.take_zero, List.drop_succ_cons, List.drop_zero, List.nil_append, List.append_nil, List.take_succ_cons, List.cons_append, cut_cons, cut_zero, cut_skip, tAt, hHide, hAt, upsAt, List.contains_cons, List.contains_nil, Nat.reduceBEq, Bool.or_true, Bool.true_or, Bool.or_false, Bool.false_or, Bool.or_self, Bool.and_true, Bool.true_and, Bool.and_false, Bool.false_and, beq_self_eq_true (α := Nat), Option.some_beq_some, Option.none_beq_some, Option.some_beq_none, Bool.false_eq_true, List.all_nil, touch, touchB, Nat.sub_self, List.range'_zero, Nat.add_sub_cancel_left, List.range'_one, h0, h3, h65]) (hrd _ hI hlt (fun h' n' hn' hI' => st_gn hn' rfl ?_) (fun h' n' hn' hq => st_gn hn' rfl ?_))
          · refine wB1 (wa h0 (wa h1 (wa h3 hadd))) ?_
            refine ⟨s.size - (p + w), by omega, p + w, by omega, rfl, ?_, ?_, ?_, hI'⟩
            all_goals first | (simp [upd_ap, h0, h1]; done) | (simp [upd_ap, h0, h1]; exact hadd1 hw1)
          · refine wB1 (wa h0 (wa h1 h3)) ?_
            exact hq
      · rw [if_neg (by omega)] at hrd
        refine wC1 (wa h0 (wa h1 (wa h3 (wa hlt' (wa hbd (wa hc (wa hwd h65))))))) trivial ?_
        refine st_wk rfl rfl (by simp only [vop, val, argsT, upd_ap, Nat.reduceEqDiff, if_true, if_false, ite_true, ite_false, reduceIte, loadAt, loadA, AV.cells, AV.one, List.all_cons, List.all_nil, ofV, ofCell, plain, List.getElem?_cons_zero, List.getElem?_cons_succ, List.getElem?_toArray, Option.getD_some, Bool.not_true, Bool.not_false, Bool.false_eq_true, Bool.and_true, Bool.true_and, Bool.and_self, Nat.zero_add, Option.map_some, Option.bind_some, List.map_cons, List.map_nil, ev_add, ev_sub, ev_mul, ev_lss, ev_leq, ev_gtr, ev_geq, ev_eql, ev_neq, ev_seql, ev_sneq, ev_sleq, ev_slss, ev_not, ev_min, ev_max, asNat_nat, asNat_zero, asNat_one, asNat_two, asNat_three, vb_len, List.length_cons, List.length_nil, Nat.reduceAdd, Nat.reduceLeDiff, Nat.reduceMul, Int.reduceEq, Int.reduceLT, Int.reduceLE, Int.reduceNeg, Int.reduceAdd, Int.reduceSub, Nat.reduceLT, decide_true, decide_false, not_true_eq_false, not_false_eq_true, and_self, and_true, true_and, storeA, List.take_zero, List.drop_succ_cons, List.drop_zero, List.nil_append, List.append_nil, List.take_succ_cons, List.cons_append, cut_cons, cut_zero, cut_skip, tAt, hHide, hAt, upsAt, List.contains_cons, List.contains_nil, Nat.reduceBEq, Bool.or_true, Bool.true_or, Bool.or_false, Bool.false_or, Bool.or_self, Bool.and_true, Bool.true_and, Bool.and_false, Bool.false_and, beq_self_eq_true (α := Nat), Option.some_beq_some, Option.none_beq_some, Option.some_beq_none, Bool.false_eq_true, List.all_nil, touch, touchB, Nat.sub_self, List.range'_zero, Nat.add_sub_cancel_left, List.range'_one, h0]) (by simp only [vop, val, argsT, upd_ap, Nat.reduceEqDiff, if_true, if_false, ite_true, ite_false, reduceIte, loadAt, loadA, AV.cells, AV.one, List.all_cons, List.all_nil, ofV, ofCell, plain, List.getElem?_cons_zero, List.getElem?_cons_succ, List.getElem?_toArray, Option.getD_some, Bool.not_true, Bool.not_false, Bool.false_eq_true, Bool.and_true, Bool.true_and, Bool.and_self, Nat.zero_add, Option.map_some, Option.bind_some, List.map_cons, List.map_nil, ev_add, ev_sub, ev_mul, ev_lss, ev_leq, ev_gtr, ev_geq, ev_eql, ev_neq, ev_seql, ev_sneq, ev_sleq, ev_slss, ev_not, ev_min, ev_max, asNat_nat, asNat_zero, asNat_one, asNat_two, asNat_three, vb_len, List.length_cons, List.length_nil, Nat.reduceAdd, Nat.reduceLeDiff, Nat.reduceMul, Int.reduceEq, Int.reduceLT, Int.reduceLE, Int.reduceNeg, Int.reduceAdd, Int.reduceSub, Nat.reduceLT, decide_true, decide_false, not_true_eq_false, not_false_eq_true, and_self, and_true, true_and, storeA, List.take_zero, List.drop_succ_cons, List.drop_zero, List.nil_append, List.append_nil, List.take_succ_cons, List.cons_append, cut_cons, cut_zero, cut_skip, tAt, hHide, hAt, upsAt, List.contains_cons, List.contains_nil, Nat.reduceBEq, Bool.or_true, Bool.true_or, Bool.or_false, Bool.false_or, Bool.or_self, Bool.and_true, Bool.true_and, Bool.and_false, Bool.false_and, beq_self_eq_true (α := Nat), Option.some_beq_some, Option.none_beq_some, Option.some_beq_none, Bool.false_eq_true, List.all_nil, touch, touchB, Nat.sub_self, List.range'_zero, Nat.add_sub_cancel_left, List.range'_one, h0, h3, h65]) (hrd _ hI hlt (fun h' n' hn' hI' => st_gn hn' rfl ?_) (fun h' n' hn' hq => st_gn hn' rfl ?_))
        · refine wB1 (wa h0 (wa h1 (wa h3 hadd))) ?_
          refine ⟨s.size - (p + w), by omega, p + w, by omega, rfl, ?_, ?_, ?_, hI'⟩
          all_goals simp [upd_ap, h0, h1]
        · refine wB1 (wa h0 (wa h1 h3)) ?_
          exact hq
    · have hge : ¬ (p : Int) < (s.size : Int) := by omega
      obtain rfl : p = s.size := by omega
      refine wB1 (wa h0 (wa h1 (wa h3 hge))) ?_
      exact hend _ _ hI
  · simp [upd_ap, argsT, hI]
end Go.Proofs.Bv
namespace Go.Proofs.Bv
open Go
theorem ok331 : codeOk 4 (Tryz.f331.body.getD .skip) = true := by kernel_rfl
theorem ok356 : codeOk 19 (Tryz.f356.body.getD .skip) = true := by kernel_rfl
theorem ok336 : codeOk 33 (Tryz.f336.body.getD .skip) = true := by kernel_rfl
theorem bsu (a b : Int) : fillA (fun i => some (i * 1, 1)) (rep 2 [.sc (.int .u32 0)]) [(0, .sc (.int .u32 a)), (1, .sc (.int .u32 b))] = some [.sc (.int .u32 a), .sc (.int .u32 b)] := rfl
theorem pc159 (G : Nat → Option (List AV)) (n : Int) (h : 0 ≤ n ∧ n ≤ 18446744073709551615) : Pc (Cf G) 159 [.sc (.int .u64 n)] (.psl (u32s (trimL [n % 4294967296, n / 4294967296])) (trimL [n % 4294967296, n / 4294967296]).length) := by
  have hc := pc183 G [n % 4294967296, n / 4294967296] (by simp)
  have w2 : IntKind.u32.wrap (n / 4294967296) = n / 4294967296 := IntWalk.u32_in _ (by omega)
  have w3 : IntKind.u32.wrap n = n % 4294967296 := by rw [IntKind.wrap_u32]
  generalize trimL [n % 4294967296, n / 4294967296] = r at hc
  simp only [u32s, List.map_cons, List.map_nil, List.length_cons, List.length_nil, Nat.zero_add, Nat.reduceAdd] at hc
  refine Pc_of (Gf_enter (C := Cf G) Tryz.func159 rfl ok159 (Nat.le_of_ble_eq_true rfl) ?_)
  simp only [Tryz.f159, Option.getD_some]
  refine wF1 (wa w2 (wa w3 @bsu)) (wa hc trivial) ?_
  simp only [one1, frz_l, Option.map_some]
  rfl
theorem pc331 (G : Nat → Option (List AV)) (cs : List AV) (len : Nat) : Pc (Cf G) 331 [.psl cs len] (.fn (.func 356) [.pptr [.psl cs len] 0]) := by
  refine Pc_of (Gf_enter (C := Cf G) Tryz.func331 rfl ok331 (Nat.le_of_ble_eq_true rfl) ?_)
  simp only [Tryz.f331, Option.getD_some]
  refine wB1 @Array.size_empty.{0} ?_
  all_goals rfl
theorem pc336 (G : Nat → Option (List AV)) (a x d : Int) (ha : 0 ≤ a ∧ a < d) (hx : 0 ≤ x ∧ x ≤ 4294967295) (hd : d ≤ 4294967295) :
    Pc (Cf G) 336 [.sc (.int .u32 a), .sc (.int .u32 x), .sc (.int .u32 d)] (.tup [.sc (.int .u32 ((a * 4294967296 + x) / d)), .sc (.int .u32 ((a * 4294967296 + x) % d))]) := by
  have h1 : ¬ d = 0 := by omega
  have h2 : ¬ d ≤ a := by omega
  have w1 : IntKind.u64.wrap a = a := IntWalk.u64_in _ (by omega)
  have w2 : IntKind.u64.wrap x = x := IntWalk.u64_in _ (by omega)
  have w3 : IntKind.u64.wrap d = d := IntWalk.u64_in _ (by omega)
  have w4 : IntKind.u64.wrap (a * 4294967296) = a * 4294967296 := IntWalk.u64_in _ (by omega)
  have w5 : IntKind.u64.wrap ((BitVec.ofInt 64 (a * 4294967296) ||| BitVec.ofInt 64 x).toNat : Int) = a * 4294967296 + x := or32 (by omega) (by omega)
  have hq0 : 0 ≤ (a * 4294967296 + x) / d := Int.ediv_nonneg (by omega) (by omega)
  have hq1 : (a * 4294967296 + x) / d < 4294967296 := by
    apply Int.ediv_lt_of_lt_mul (by omega)
    have : a + 1 ≤ d := by omega
    have := Int.mul_le_mul_of_nonneg_left this (show (0 : Int) ≤ 4294967296 by omega)
    rw [Int.mul_add] at this
    have e := Int.mul_comm a 4294967296
    omega
  have w6 : IntKind.u64.wrap ((a * 4294967296 + x).tdiv d) = (a * 4294967296 + x) / d := by
    rw [Int.tdiv_eq_ediv_of_nonneg (by omega), IntWalk.u64_in _ (by omega)]
  have hm0 := Int.emod_nonneg (a * 4294967296 + x) (show d ≠ 0 by omega)
  have hm1 := Int.emod_lt_of_pos (a * 4294967296 + x) (show 0 < d by omega)
  have w7 : IntKind.u32.wrap ((a * 4294967296 + x) / d) = (a * 4294967296 + x) / d := IntWalk.u32_in _ (by omega)
  have w8 : (a * 4294967296 + x).tmod d = (a * 4294967296 + x) % d := Int.tmod_eq_emod_of_nonneg (by omega)
  have w9 : IntKind.u32.wrap ((a * 4294967296 + x) % d) = (a * 4294967296 + x) % d := IntWalk.u32_in _ (by omega)
  refine Pc_of (Gf_enter (C := Cf G) Tryz.func336 rfl ok336 (Nat.le_of_ble_eq_true rfl) ?_)
  simp only [Tryz.f336, Option.getD_some]
  refine wB1 (wa h1 (wa h2 (wa w1 (wa w2 (wa w3 w4))))) ?_
  simp only [one1, frz_t, mapF, frz_s, Option.map_some, List.append_nil]
  show some (AV.tup [.sc (.int .u32 (IntKind.u32.wrap (IntKind.u64.wrap ((IntKind.u64.wrap ((BitVec.ofInt 64 (a * 4294967296) ||| BitVec.ofInt 64 x).toNat : Int)).tdiv d)))), .sc (.int .u32 (IntKind.u32.wrap ((IntKind.u64.wrap ((BitVec.ofInt 64 (a * 4294967296) ||| BitVec.ofInt 64 x).toNat : Int)).tmod d)))]) = _
  rw [w5, w6, w7, w8, w9]
theorem gf356 (G : Nat → Option (List AV)) (l : List Int) (hl : l.length ≤ 140737488355328) (b : Nat) (I : Nat → Heap → Nat → Prop) (Q : AV → Heap → Nat → Prop)
    (hround : ∀ k x h n (K : AV → Heap → Nat → Prop), I (k + 1) h n → l[k]? = some x → (∀ h' n', n ≤ n' → I k h' n' → K (.sc (.bool true)) h' n') → (∀ h' n', n ≤ n' → Q (.tup []) h' n' → K (.sc (.bool false)) h' n') →
      Wk (Cf G) (.fn (.yield b) []) [.sc (.int .i64 k), .sc (.int .u32 x)] h n K)
    (hend : ∀ h n, I 0 h n → Q (.tup []) h n) {h : Heap} {n : Nat} (hI : I l.length h n) : Gf (Cf G) 356 [.fn (.yield b) [], .pptr [.psl (u32s l) l.length] 0] h n Q := by
  have w0 : IntKind.i64.wrap ((l.length : Int) - 1) = (l.length : Int) - 1 := i64 (by omega) (by omega)
  refine Gf_enter (C := Cf G) Tryz.func356 rfl ok356 (Nat.le_of_ble_eq_true rfl) ?_
  simp only [Tryz.f356, Option.getD_some]
  refine wB1 w0 ?_
  refine Gc_loop_inv (fun m st => m ≤ l.length ∧ st.T 0 = .fn (.yield b) [] ∧ st.T 1 = .pptr [.psl (u32s l) l.length] 0 ∧ st.T 3 = .sc (.int .i64 ((m : Int) - 1)) ∧ I m st.h st.n) ?_ l.length _ ⟨Nat.le_refl _, ?_⟩
  · rintro m ⟨T, h, n⟩ ⟨hm, h0, h1, h3, hI⟩
    simp only at h0 h1 h3 hI
    cases m with
    | zero =>
      have hge : ¬ (0 : Int) ≤ ((0 : Nat) : Int) - 1 := by omega
      refine wB1 (wa h0 (wa h1 (wa h3 hge))) ?_
      exact hend _ _ hI
    | succ k =>
      have e0 : ((k + 1 : Nat) : Int) - 1 = (k : Int) := by omega
      rw [e0] at h3
      have hge : (0 : Int) ≤ (k : Int) := by omega
      have hlt : k < l.length := by omega
      obtain ⟨x, hx⟩ : ∃ x, l[k]? = some x := ⟨l[k]'(by omega), List.getElem?_eq_getElem (by omega)⟩
      have hx' := u32s_at hx
      have wk : IntKind.i64.wrap ((k : Int) - 1) = (k : Int) - 1 := i64 (by omega) (by omega)
      refine wB1 (wa h0 (wa h1 (wa h3 (wa hge (wa hlt hx'))))) ?_
      refine st_wk rfl rfl (by simp only [vop, val, argsT, upd_ap, Nat.reduceEqDiff, if_true, if_false, ite_true, ite_false, reduceIte, loadAt, loadA, AV.cells, AV.one, List.all_cons, List.all_nil, ofV, ofCell, plain, List.getElem?_cons_zero, List.getElem?_cons_succ, List.getElem?_toArray, Option.getD_some, Bool.not_true, Bool.not_false, Bool.false_eq_true, Bool.and_true, Bool.true_and, Bool.and_self, Nat.zero_add, Option.map_some, Option.bind_some, List.map_cons, List.map_nil, ev_add, ev_sub, ev_mul, ev_lss, ev_leq, ev_gtr, ev_geq, ev_eql, ev_neq, ev_seql, ev_sneq, ev_sleq, ev_slss, ev_not, ev_min, ev_max, asNat_nat, asNat_zero, asNat_one, asNat_two, asNat_three, vb_len, List.length_cons, List.length_nil, Nat.reduceAdd, Nat.reduceLeDiff, Nat.reduceMul, Int.reduceEq, Int.reduceLT, Int.reduceLE, Int.reduceNeg, Int.reduceAdd, Int.reduceSub, Nat.reduceLT, decide_true, decide_false, not_true_eq_false, not_false_eq_true, and_self, and_true, true_and, storeA, List.take_zero, List.drop_succ_cons, List.drop_zero, List.nil_append, List.append_nil, List.take_succ_cons, List.cons_append, cut_cons, cut_zero, cut_skip, tAt, hHide, hAt, upsAt, List.contains_cons, List.contains_nil, Nat.reduceBEq, Bool.or_true, Bool.true_or, Bool.or_false, Bool.false_or, Bool.or_self, Bool.and_true, Bool.true_and, Bool.and_false, Bool.false_and, beq_self_eq_true (α := Nat), Option.some_beq_some, Option.none_beq_some, Option.some_beq_none, Bool.false_eq_true, List.all_nil, touch, touchB, Nat.sub_self, List.range'_zero, Nat.add_sub_cancel_left, List.range'_one, h0]) (by simp only [vop, val, argsT, upd_ap, Nat.reduceEqDiff, if_true, if_false, ite_true, ite_false, reduceIte, loadAt, loadA, AV.cells, AV.one, List.all_cons, List.all_nil, ofV, ofCell, plain, List.getElem?_cons_zero, List.getElem?_cons_succ, List.getElem?_toArray, Option.getD_some, Bool.not_true, Bool.not_false, Bool.false_eq_true, Bool.and_true, Bool.true_and, Bool.and_self, Nat.zero_add, Option.map_some, Option.bind_some, List.map_cons, List.map_nil, ev_add, ev_sub, ev_mul, ev_lss, ev_leq, ev_gtr, ev_geq, ev_eql, ev_neq, ev_seql, ev_sneq, ev_sleq, ev_slss, ev_not, ev_min, ev_max, asNat_nat, asNat_zero, asNat_one, asNat_two, asNat_three, vb_len, List.length_cons, List.length_nil, Nat.reduceAdd, Nat.reduceLeDiff, Nat.reduceMul, Int.reduceEq, Int.reduceLT, Int.reduceLE, Int.reduceNeg, Int.reduceAdd, Int.reduceSub, Nat.reduceLT, decide_true, decide_false, not_true_eq_false, not_false_eq_true, and_self, and_true, true_and, storeA, List.take_zero, List.drop_succ_cons, List.drop_zero, List.nil_append, List.append_nil, List.take_succ_cons, List.cons_append, cut_cons, cut_zero, cut_skip, tAt, hHide, hAt, upsAt, List.contains_cons, List.contains_nil, Nat.reduceBEq, Bool.or_true, Bool.true_or, Bool.or_false, Bool.false_or, Bool.or_self, Bool.and_true, Bool.true_and, Bool.and_false, Bool.false_and, beq_self_eq_true (α := Nat), Option.some_beq_some, Option.none_beq_some, Option.some_beq_none, Bool.false_eq_true, List.all_nil, touch, touchB, Nat.sub_self, List.range'_zero, Nat.add_sub_cancel_left, List.range'_one, h3]) (hround k x _ _ _ hI hx (fun h' n' hn' hI' => st_gn hn' rfl ?_) (fun h' n' hn' hq => st_gn hn' rfl ?_))
      · refine wB1 (wa h0 (wa h1 (wa h3 wk))) ?_
        refine ⟨k, by omega, by omega, ?_, ?_, ?_, hI'⟩
        all_goals simp [upd_ap, h0, h1]
      · refine wB1 (wa h0 (wa h1 h3)) ?_
        exact hq
  · simp [upd_ap, argsT, hI]
end Go.Proofs.Bv
namespace Go.Proofs.Bv
open Go
theorem ok281 : codeOk 32 (Tryz.f281.body.getD .skip) = true := by kernel_rfl
theorem gf356L (G : Nat → Option (List AV)) (l : List Int) (hl : l.length ≤ 140737488355328) (b : Nat) (L : LoopA) (J : Nat → Heap → Nat → Prop) (Q : AV → Heap → Nat → Prop)
    (hround : ∀ k x h n (K : AV → Heap → Nat → Prop), J (k + 1) h n → h b = some (.loop L) → l[k]? = some x → (∀ h' n', n ≤ n' → J k h' n' → h' b = some (.loop L) → K (.sc (.bool true)) h' n') → (∀ h' n', n ≤ n' → Q (.tup []) h' n' → K (.sc (.bool false)) h' n') →
      Wk (Cf G) (.fn (.yield b) []) [.sc (.int .i64 k), .sc (.int .u32 x)] h n K)
    (hend : ∀ h n, J 0 h n → h b = some (.loop L) → Q (.tup []) h n) {h : Heap} {n : Nat} (hJ : J l.length h n) (hL : h b = some (.loop L)) : Gf (Cf G) 356 [.fn (.yield b) [], .pptr [.psl (u32s l) l.length] 0] h n Q :=
  gf356 G l hl b (fun k h n => J k h n ∧ h b = some (.loop L)) Q (fun k x h n K hI hx hT hF => hround k x h n K hI.1 hI.2 hx (fun h' n' hn hj hl => hT h' n' hn ⟨hj, hl⟩) hF) (fun h n hI => hend h n hI.1 hI.2) ⟨hJ, hL⟩
theorem rep_one (k : Nat) : rep k [AV.sc (.int .u32 0)] = u32s (List.replicate k 0) := by
  induction k with
  | zero => rfl
  | succ k ih => simp only [rep, ih, List.replicate_succ, u32s, List.map_cons, List.singleton_append]
theorem u32s_app (a b : List Int) : u32s (a ++ b) = u32s a ++ u32s b := by simp [u32s]
theorem store_small (k : Nat) (q : Int) (Q : List Int) : storeA (u32s (List.replicate (k + 1) 0 ++ Q)) (0 + k * 1) [.sc (.int .u32 q)] = u32s (List.replicate k 0 ++ q :: Q) := by
  have e : (u32s (List.replicate (k + 1) 0 ++ Q)) = u32s (List.replicate k 0) ++ (.sc (.int .u32 0) :: u32s Q) := by
    rw [u32s_app, List.replicate_succ', u32s_app, List.append_assoc]
    rfl
  have hl : (u32s (List.replicate k 0)).length = k := by simp [u32s]
  simp only [storeA, Nat.zero_add, Nat.mul_one, e, List.length_singleton]
  rw [List.take_append_of_le_length (by omega), List.take_of_length_le (by omega), List.drop_append, List.drop_of_length_le (by omega), hl]
  simp [u32s]
set_option maxHeartbeats 4000000 in
set_option maxRecDepth 100000 in
theorem pc281 (G : Nat → Option (List AV)) (l : List Int) (d : Int) (hl : l.length * 4 ≤ 140737488355328) (hL : Limbs l) (hd : 0 < d ∧ d ≤ 4294967295) :
    Pc (Cf G) 281 [.psl (u32s l) l.length, .sc (.int .u32 d)] (.tup [.psl (u32s (trimL (dmQ l d))) (trimL (dmQ l d)).length, .sc (.int .u32 (nv l % d))]) := by
  have hc := pc331 G (u32s l) l.length
  have hby : l.length * 4 ≤ 140737488355328 ∧ l.length ≤ 140737488355328 := by omega
  refine Pc_of (Gf_enter (C := Cf G) Tryz.func281 rfl ok281 (Nat.le_of_ble_eq_true rfl) ?_)
  simp only [Tryz.f281, Option.getD_some]
  refine wC1 (wa @rep_one (wa hby.1 hby.2)) (wa hc trivial) ?_
  refine st_abs (fun T => T 2 = .ptr 0 0 ∧ T 3 = .ptr 1 0 ∧ T 6 = .ptr 3 0 ∧ T 7 = .ptr 4 0 ∧ T 13 = .fn (.func 356) [.pptr [.psl (u32s l) l.length] 0]) ⟨rfl, rfl, rfl, rfl, rfl⟩ ?_
  rintro T ⟨t2, t3, t6, t7, t13⟩
  refine st_range' (by simp only [vop, val, argsT, upd_ap, Nat.reduceEqDiff, if_true, if_false, ite_true, ite_false, reduceIte, loadAt, loadA, AV.cells, AV.one, List.all_cons, List.all_nil, ofV, ofCell, plain, List.getElem?_cons_zero, List.getElem?_cons_succ, List.getElem?_toArray, Option.getD_some, Bool.not_true, Bool.not_false, Bool.false_eq_true, Bool.and_true, Bool.true_and, Bool.and_self, Nat.zero_add, Option.map_some, Option.bind_some, List.map_cons, List.map_nil, ev_add, ev_sub, ev_mul, ev_lss, ev_leq, ev_gtr, ev_geq, ev_eql, ev_neq, ev_seql, ev_sneq, ev_sleq, ev_slss, ev_not, ev_min, ev_max, asNat_nat, asNat_zero, asNat_one, asNat_two, asNat_three, vb_len, List.length_cons, List.length_nil, Nat.reduceAdd, Nat.reduceLeDiff, Nat.reduceMul, Int.reduceEq, Int.reduceLT, Int.reduceLE, Int.reduceNeg, Int.reduceAdd, Int.reduceSub, Nat.reduceLT, decide_true, decide_false, not_true_eq_false, not_false_eq_true, and_self, and_true, true_and, storeA, List.take_zero, List.drop_succ_cons, List.drop_zero, List.nil_append, List.append_nil, List.take_succ_cons, List.cons_append, cut_cons, cut_zero, cut_skip, tAt, hHide, hAt, upsAt, List.contains_cons, List.contains_nil, Nat.reduceBEq, Bool.or_true, Bool.true_or, Bool.or_false, Bool.false_or, Bool.or_self, Bool.and_true, Bool.true_and, Bool.and_false, Bool.false_and, beq_self_eq_true (α := Nat), Option.some_beq_some, Option.none_beq_some, Option.some_beq_none, Bool.false_eq_true, List.all_nil, touch, touchB, Nat.sub_self, List.range'_zero, Nat.add_sub_cancel_left, List.range'_one, t13]; with_reducible rfl) ?_
  refine gf356L G l (by omega) _ _ (fun k h n => k ≤ l.length ∧ 6 ≤ n ∧ h 0 = some (.cells [.psl (u32s l) l.length] 0 false) ∧ h 1 = some (.cells [.sc (.int .u32 d)] 0 false) ∧ h 2 = some (.cells (u32s (List.replicate k 0 ++ dmQ (l.drop k) d)) 1 false) ∧ h 3 = some (.cells [.osl 2 0 l.length] 0 false) ∧ h 4 = some (.cells [.sc (.int .u32 (nv (l.drop k) % d))] 0 false)) _ ?_ ?_ ⟨Nat.le_refl _, Nat.le_refl _, rfl, rfl, ?_, rfl, ?_⟩ rfl
  · rintro k x h n K ⟨hk, h6, q0, q1, q2, q3, q4⟩ hLp hx hT hF
    have hm0 := Int.emod_nonneg (nv (l.drop (k + 1))) (show d ≠ 0 by omega)
    have hm1 := Int.emod_lt_of_pos (nv (l.drop (k + 1))) (show 0 < d by omega)
    have hxl := hL x (List.mem_of_getElem? hx)
    have hx' := u32s_at hx
    have hklt : k < l.length := by omega
    have hdk : l.drop k = x :: l.drop (k + 1) := by
      rw [List.getElem?_eq_some_iff] at hx
      obtain ⟨h1, h2⟩ := hx
      rw [List.drop_eq_getElem_cons h1, h2]
    have hdiv := pc336 G (nv (l.drop (k + 1)) % d) x d ⟨hm0, hm1⟩ hxl hd.2
    have hst := store_small k ((nv (l.drop (k + 1)) % d * 4294967296 + x) / d) (dmQ (l.drop (k + 1)) d)
    have hlen : (u32s (List.replicate (k + 1) 0 ++ dmQ (l.drop (k + 1)) d)).length = l.length := by
      simp [u32s, dmQ_len]
      omega
    have hle : k * 1 + 1 ≤ l.length := by omega
    simp only [storeA, Nat.zero_add, List.length_singleton] at hst
    refine Wk_yield hLp (by kernel_rfl) rfl ?_
    refine wB1 hLp ?_
    refine roundMid_of hLp rfl ?_
    refine gC1 (wa t2 (wa t3 (wa t6 (wa t7 (wa hLp (wa q0 (wa q1 (wa q2 (wa q3 (wa q4 (wa hx' (wa hklt (wa hst (wa hlen hle)))))))))))))) (wa hdiv trivial) ?_
    have hdm : (nv (l.drop (k + 1)) % d * 4294967296 + x) % d = nv (l.drop k) % d := by rw [hdk, nv_mod_cons]
    have hdq : u32s (List.replicate k 0 ++ dmQ (l.drop k) d) = u32s (List.replicate k 0 ++ (nv (l.drop (k + 1)) % d * 4294967296 + x) / d :: dmQ (l.drop (k + 1)) d) := by rw [hdk]; rfl
    refine roundEnd_norm (by simp only [vop, val, argsT, upd_ap, Nat.reduceEqDiff, if_true, if_false, ite_true, ite_false, reduceIte, loadAt, loadA, AV.cells, AV.one, List.all_cons, List.all_nil, ofV, ofCell, plain, List.getElem?_cons_zero, List.getElem?_cons_succ, List.getElem?_toArray, Option.getD_some, Bool.not_true, Bool.not_false, Bool.false_eq_true, Bool.and_true, Bool.true_and, Bool.and_self, Nat.zero_add, Option.map_some, Option.bind_some, List.map_cons, List.map_nil, ev_add, ev_sub, ev_mul, ev_lss, ev_leq, ev_gtr, ev_geq, ev_eql, ev_neq, ev_seql, ev_sneq, ev_sleq, ev_slss, ev_not, ev_min, ev_max, asNat_nat, asNat_zero, asNat_one, asNat_two, asNat_three, vb_len, List.length_cons, List.length_nil, Nat.reduceAdd, Nat.reduceLeDiff, Nat.reduceMul, Int.reduceEq, Int.reduceLT, Int.reduceLE, Int.reduceNeg, Int.reduceAdd, Int.reduceSub, Nat.reduceLT, decide_true, decide_false, not_true_eq_false, not_false_eq_true, and_self, and_true, true_and, storeA, List.take_zero, List.drop_succ_cons, List.drop_zero, List.nil_append, List.append_nil, List.take_succ_cons, List.cons_append, cut_cons, cut_zero, cut_skip, tAt, hHide, hAt, upsAt, List.contains_cons, List.contains_nil, Nat.reduceBEq, Bool.or_true, Bool.true_or, Bool.or_false, Bool.false_or, Bool.or_self, Bool.and_true, Bool.true_and, Bool.and_false, Bool.false_and, beq_self_eq_true (α := Nat), Option.some_beq_some, Option.none_beq_some, Option.some_beq_none, Bool.false_eq_true, List.all_nil, touch, touchB, Nat.sub_self, List.range'_zero, Nat.add_sub_cancel_left, List.range'_one]; with_reducible rfl) ?_
    refine hT _ _ (Nat.le_refl _) ⟨by omega, h6, ?_, ?_, ?_, ?_, ?_⟩ ?_
    · simp only [vop, val, argsT, upd_ap, Nat.reduceEqDiff, if_true, if_false, ite_true, ite_false, reduceIte, loadAt, loadA, AV.cells, AV.one, List.all_cons, List.all_nil, ofV, ofCell, plain, List.getElem?_cons_zero, List.getElem?_cons_succ, List.getElem?_toArray, Option.getD_some, Bool.not_true, Bool.not_false, Bool.false_eq_true, Bool.and_true, Bool.true_and, Bool.and_self, Nat.zero_add, Option.map_some, Option.bind_some, List.map_cons, List.map_nil, ev_add, ev_sub, ev_mul, ev_lss, ev_leq, ev_gtr, ev_geq, ev_eql, ev_neq, ev_seql, ev_sneq, ev_sleq, ev_slss, ev_not, ev_min, ev_max, asNat_nat, asNat_zero, asNat_one, asNat_two, asNat_three, vb_len, List.length_cons, List.length_nil, Nat.reduceAdd, Nat.reduceLeDiff, Nat.reduceMul, Int.reduceEq, Int.reduceLT, Int.reduceLE, Int.reduceNeg, Int.reduceAdd, Int.reduceSub, Nat.reduceLT, decide_true, decide_false, not_true_eq_false, not_false_eq_true, and_self, and_true, true_and, storeA, List.take_zero, List.drop_succ_cons, List.drop_zero, List.nil_append, List.append_nil, List.take_succ_cons, List.cons_append, cut_cons, cut_zero, cut_skip, tAt, hHide, hAt, upsAt, List.contains_cons, List.contains_nil, Nat.reduceBEq, Bool.or_true, Bool.true_or, Bool.or_false, Bool.false_or, Bool.or_self, Bool.and_true, Bool.true_and, Bool.and_false, Bool.false_and, beq_self_eq_true (α := Nat), Option.some_beq_some, Option.none_beq_some, Option.some_beq_none, Bool.false_eq_true, List.all_nil, touch, touchB, Nat.sub_self, List.range'_zero, Nat.add_sub_cancel_left, List.range'_one, q0]
    · simp only [vop, val, argsT, upd_ap, Nat.reduceEqDiff, if_true, if_false, ite_true, ite_false, reduceIte, loadAt, loadA, AV.cells, AV.one, List.all_cons, List.all_nil, ofV, ofCell, plain, List.getElem?_cons_zero, List.getElem?_cons_succ, List.getElem?_toArray, Option.getD_some, Bool.not_true, Bool.not_false, Bool.false_eq_true, Bool.and_true, Bool.true_and, Bool.and_self, Nat.zero_add, Option.map_some, Option.bind_some, List.map_cons, List.map_nil, ev_add, ev_sub, ev_mul, ev_lss, ev_leq, ev_gtr, ev_geq, ev_eql, ev_neq, ev_seql, ev_sneq, ev_sleq, ev_slss, ev_not, ev_min, ev_max, asNat_nat, asNat_zero, asNat_one, asNat_two, asNat_three, vb_len, List.length_cons, List.length_nil, Nat.reduceAdd, Nat.reduceLeDiff, Nat.reduceMul, Int.reduceEq, Int.reduceLT, Int.reduceLE, Int.reduceNeg, Int.reduceAdd, Int.reduceSub, Nat.reduceLT, decide_true, decide_false, not_true_eq_false, not_false_eq_true, and_self, and_true, true_and, storeA, List.take_zero, List.drop_succ_cons, List.drop_zero, List.nil_append, List.append_nil, List.take_succ_cons, List.cons_append, cut_cons, cut_zero, cut_skip, tAt, hHide, hAt, upsAt, List.contains_cons, List.contains_nil, Nat.reduceBEq, Bool.or_true, Bool.true_or, Bool.or_false, Bool.false_or, Bool.or_self, Bool.and_true, Bool.true_and, Bool.and_false, Bool.false_and, beq_self_eq_true (α := Nat), Option.some_beq_some, Option.none_beq_some, Option.some_beq_none, Bool.false_eq_true, List.all_nil, touch, touchB, Nat.sub_self, List.range'_zero, Nat.add_sub_cancel_left, List.range'_one, q1]
    · simp only [vop, val, argsT, upd_ap, Nat.reduceEqDiff, if_true, if_false, ite_true, ite_false, reduceIte, loadAt, loadA, AV.cells, AV.one, List.all_cons, List.all_nil, ofV, ofCell, plain, List.getElem?_cons_zero, List.getElem?_cons_succ, List.getElem?_toArray, Option.getD_some, Bool.not_true, Bool.not_false, Bool.false_eq_true, Bool.and_true, Bool.true_and, Bool.and_self, Nat.zero_add, Option.map_some, Option.bind_some, List.map_cons, List.map_nil, ev_add, ev_sub, ev_mul, ev_lss, ev_leq, ev_gtr, ev_geq, ev_eql, ev_neq, ev_seql, ev_sneq, ev_sleq, ev_slss, ev_not, ev_min, ev_max, asNat_nat, asNat_zero, asNat_one, asNat_two, asNat_three, vb_len, List.length_cons, List.length_nil, Nat.reduceAdd, Nat.reduceLeDiff, Nat.reduceMul, Int.reduceEq, Int.reduceLT, Int.reduceLE, Int.reduceNeg, Int.reduceAdd, Int.reduceSub, Nat.reduceLT, decide_true, decide_false, not_true_eq_false, not_false_eq_true, and_self, and_true, true_and, storeA, List.take_zero, List.drop_succ_cons, List.drop_zero, List.nil_append, List.append_nil, List.take_succ_cons, List.cons_append, cut_cons, cut_zero, cut_skip, tAt, hHide, hAt, upsAt, List.contains_cons, List.contains_nil, Nat.reduceBEq, Bool.or_true, Bool.true_or, Bool.or_false, Bool.false_or, Bool.or_self, Bool.and_true, Bool.true_and, Bool.and_false, Bool.false_and, beq_self_eq_true (α := Nat), Option.some_beq_some, Option.none_beq_some, Option.some_beq_none, Bool.false_eq_true, List.all_nil, touch, touchB, Nat.sub_self, List.range'_zero, Nat.add_sub_cancel_left, List.range'_one, hst, hdq]
    · simp only [vop, val, argsT, upd_ap, Nat.reduceEqDiff, if_true, if_false, ite_true, ite_false, reduceIte, loadAt, loadA, AV.cells, AV.one, List.all_cons, List.all_nil, ofV, ofCell, plain, List.getElem?_cons_zero, List.getElem?_cons_succ, List.getElem?_toArray, Option.getD_some, Bool.not_true, Bool.not_false, Bool.false_eq_true, Bool.and_true, Bool.true_and, Bool.and_self, Nat.zero_add, Option.map_some, Option.bind_some, List.map_cons, List.map_nil, ev_add, ev_sub, ev_mul, ev_lss, ev_leq, ev_gtr, ev_geq, ev_eql, ev_neq, ev_seql, ev_sneq, ev_sleq, ev_slss, ev_not, ev_min, ev_max, asNat_nat, asNat_zero, asNat_one, asNat_two, asNat_three, vb_len, List.length_cons, List.length_nil, Nat.reduceAdd, Nat.reduceLeDiff, Nat.reduceMul, Int.reduceEq, Int.reduceLT, Int.reduceLE, Int.reduceNeg, Int.reduceAdd, Int.reduceSub, Nat.reduceLT, decide_true, decide_false, not_true_eq_false, not_false_eq_true, and_self, and_true, true_and, storeA, List.take_zero, List.drop_succ_cons, List.drop_zero, List.nil_append, List.append_nil, List.take_succ_cons, List.cons_append, cut_cons, cut_zero, cut_skip, tAt, hHide, hAt, upsAt, List.contains_cons, List.contains_nil, Nat.reduceBEq, Bool.or_true, Bool.true_or, Bool.or_false, Bool.false_or, Bool.or_self, Bool.and_true, Bool.true_and, Bool.and_false, Bool.false_and, beq_self_eq_true (α := Nat), Option.some_beq_some, Option.none_beq_some, Option.some_beq_none, Bool.false_eq_true, List.all_nil, touch, touchB, Nat.sub_self, List.range'_zero, Nat.add_sub_cancel_left, List.range'_one, q3]
    · simp only [vop, val, argsT, upd_ap, Nat.reduceEqDiff, if_true, if_false, ite_true, ite_false, reduceIte, loadAt, loadA, AV.cells, AV.one, List.all_cons, List.all_nil, ofV, ofCell, plain, List.getElem?_cons_zero, List.getElem?_cons_succ, List.getElem?_toArray, Option.getD_some, Bool.not_true, Bool.not_false, Bool.false_eq_true, Bool.and_true, Bool.true_and, Bool.and_self, Nat.zero_add, Option.map_some, Option.bind_some, List.map_cons, List.map_nil, ev_add, ev_sub, ev_mul, ev_lss, ev_leq, ev_gtr, ev_geq, ev_eql, ev_neq, ev_seql, ev_sneq, ev_sleq, ev_slss, ev_not, ev_min, ev_max, asNat_nat, asNat_zero, asNat_one, asNat_two, asNat_three, vb_len, List.length_cons, List.length_nil, Nat.reduceAdd, Nat.reduceLeDiff, Nat.reduceMul, Int.reduceEq, Int.reduceLT, Int.reduceLE, Int.reduceNeg, Int.reduceAdd, Int.reduceSub, Nat.reduceLT, decide_true, decide_false, not_true_eq_false, not_false_eq_true, and_self, and_true, true_and, storeA, List.take_zero, List.drop_succ_cons, List.drop_zero, List.nil_append, List.append_nil, List.take_succ_cons, List.cons_append, cut_cons, cut_zero, cut_skip, tAt, hHide, hAt, upsAt, List.contains_cons, List.contains_nil, Nat.reduceBEq, Bool.or_true, Bool.true_or, Bool.or_false, Bool.false_or, Bool.or_self, Bool.and_true, Bool.true_and, Bool.and_false, Bool.false_and, beq_self_eq_true (α := Nat), Option.some_beq_some, Option.none_beq_some, Option.some_beq_none, Bool.false_eq_true, List.all_nil, touch, touchB, Nat.sub_self, List.range'_zero, Nat.add_sub_cancel_left, List.range'_one, hdm]
    · simp only [vop, val, argsT, upd_ap, Nat.reduceEqDiff, if_true, if_false, ite_true, ite_false, reduceIte, loadAt, loadA, AV.cells, AV.one, List.all_cons, List.all_nil, ofV, ofCell, plain, List.getElem?_cons_zero, List.getElem?_cons_succ, List.getElem?_toArray, Option.getD_some, Bool.not_true, Bool.not_false, Bool.false_eq_true, Bool.and_true, Bool.true_and, Bool.and_self, Nat.zero_add, Option.map_some, Option.bind_some, List.map_cons, List.map_nil, ev_add, ev_sub, ev_mul, ev_lss, ev_leq, ev_gtr, ev_geq, ev_eql, ev_neq, ev_seql, ev_sneq, ev_sleq, ev_slss, ev_not, ev_min, ev_max, asNat_nat, asNat_zero, asNat_one, asNat_two, asNat_three, vb_len, List.length_cons, List.length_nil, Nat.reduceAdd, Nat.reduceLeDiff, Nat.reduceMul, Int.reduceEq, Int.reduceLT, Int.reduceLE, Int.reduceNeg, Int.reduceAdd, Int.reduceSub, Nat.reduceLT, decide_true, decide_false, not_true_eq_false, not_false_eq_true, and_self, and_true, true_and, storeA, List.take_zero, List.drop_succ_cons, List.drop_zero, List.nil_append, List.append_nil, List.take_succ_cons, List.cons_append, cut_cons, cut_zero, cut_skip, tAt, hHide, hAt, upsAt, List.contains_cons, List.contains_nil, Nat.reduceBEq, Bool.or_true, Bool.true_or, Bool.or_false, Bool.false_or, Bool.or_self, Bool.and_true, Bool.true_and, Bool.and_false, Bool.false_and, beq_self_eq_true (α := Nat), Option.some_beq_some, Option.none_beq_some, Option.some_beq_none, Bool.false_eq_true, List.all_nil, touch, touchB, Nat.sub_self, List.range'_zero, Nat.add_sub_cancel_left, List.range'_one]
  · rintro h n ⟨_, h6, q0, q1, q2, q3, q4⟩ hLp
    refine rangeEnd_norm (by omega) hLp rfl rfl ?_
    have hc2 := pc183 G (dmQ l d) (by rw [dmQ_len]; omega)
    simp only [List.replicate_zero, List.nil_append, List.drop_zero] at q2 q4
    rw [dmQ_len] at hc2
    have hl2 : (u32s (dmQ l d)).length = l.length := by simp [u32s, dmQ_len]
    refine gF1 (wa t2 (wa t3 (wa t6 (wa t7 (wa hLp (wa q2 (wa q3 (wa q4 (wa hl2 @Nat.mul_one))))))))) (wa hc2 trivial) ?_
    simp only [one1, frz_t, mapF, frz_s, frz_l, Option.map_some, List.append_nil]
  · simp [upd_ap, dmQ]
  · simp [upd_ap, nv]
end Go.Proofs.Bv
namespace Go.Proofs.Bv
open Go
def cmpR : List Int → List Int → Int
  | x :: a, y :: b => if cmpR a b = 0 then cmpI x y else cmpR a b
  | _, _ => 0
def cmpL (a b : List Int) : Int := if a.length = b.length then cmpR a b else cmpI a.length b.length
theorem cmpR_drop {c : Int} (hc : c ≠ 0) : (j : Nat) → (a b : List Int) → cmpR (a.drop j) (b.drop j) = c → cmpR a b = c
  | 0, a, b, h => h
  | j + 1, [], b, h => by simp [cmpR] at h; exact absurd h.symm hc
  | j + 1, x :: a, [], h => by simp [cmpR] at h; exact absurd h.symm hc
  | j + 1, x :: a, y :: b, h => by
    have := cmpR_drop hc j a b (by simpa using h)
    simp only [cmpR, this]
    rw [if_neg hc]
theorem ok327 : codeOk 32 (Tryz.f327.body.getD .skip) = true := by kernel_rfl
set_option maxHeartbeats 4000000 in
set_option maxRecDepth 100000 in
theorem pc327 (G : Nat → Option (List AV)) (a b : List Int) (ha : a.length ≤ 140737488355328) (hb : b.length ≤ 140737488355328) :
    Pc (Cf G) 327 [.psl (u32s a) a.length, .psl (u32s b) b.length] (.sc (.int .i64 (cmpL a b))) := by
  have hc := pc331 G (u32s a) a.length
  have hl := pc190 G a.length b.length
  refine Pc_of (Gf_enter (C := Cf G) Tryz.func327 rfl ok327 (Nat.le_of_ble_eq_true rfl) ?_)
  simp only [Tryz.f327, Option.getD_some]
  by_cases hab : a.length = b.length
  · have e0 : cmpI (a.length : Int) (b.length : Int) = 0 := by unfold cmpI; omega
    rw [e0] at hl
    have eL : cmpL a b = cmpR a b := by unfold cmpL; rw [if_pos hab]
    rw [eL]
    refine wC1 trivial (wa hc (wa hl trivial)) ?_
    refine st_abs (fun T => T 2 = .ptr 0 0 ∧ T 3 = .ptr 1 0 ∧ T 4 = .ptr 2 0 ∧ T 17 = .fn (.func 356) [.pptr [.psl (u32s a) a.length] 0]) ⟨rfl, rfl, rfl, rfl⟩ ?_
    rintro T ⟨t2, t3, t4, t17⟩
    refine st_range' (by simp only [vop, val, argsT, upd_ap, Nat.reduceEqDiff, if_true, if_false, ite_true, ite_false, reduceIte, loadAt, loadA, AV.cells, AV.one, List.all_cons, List.all_nil, ofV, ofCell, plain, List.getElem?_cons_zero, List.getElem?_cons_succ, List.getElem?_toArray, Option.getD_some, Bool.not_true, Bool.not_false, Bool.false_eq_true, Bool.and_true, Bool.true_and, Bool.and_self, Nat.zero_add, Option.map_some, Option.bind_some, List.map_cons, List.map_nil, ev_add, ev_sub, ev_mul, ev_lss, ev_leq, ev_gtr, ev_geq, ev_eql, ev_neq, ev_seql, ev_sneq, ev_sleq, ev_slss, ev_not, ev_min, ev_max, asNat_nat, asNat_zero, asNat_one, asNat_two, asNat_three, vb_len, List.length_cons, List.length_nil, Nat.reduceAdd, Nat.reduceLeDiff, Nat.reduceMul, Int.reduceEq, Int.reduceLT, Int.reduceLE, Int.reduceNeg, Int.reduceAdd, Int.reduceSub, Nat.reduceLT, decide_true, decide_false, not_true_eq_false, not_false_eq_true, and_self, and_true, true_and, storeA, List.take_zero, List.drop_succ_cons, List.drop_zero, List.nil_append, List.append_nil, List.take_succ_cons, List.cons_append, cut_cons, cut_zero, cut_skip, tAt, hHide, hAt, upsAt, List.contains_cons, List.contains_nil, Nat.reduceBEq, Bool.or_true, Bool.true_or, Bool.or_false, Bool.false_or, Bool.or_self, Bool.and_true, Bool.true_and, Bool.and_false, Bool.false_and, beq_self_eq_true (α := Nat), Option.some_beq_some, Option.none_beq_some, Option.some_beq_none, Bool.false_eq_true, List.all_nil, touch, touchB, Nat.sub_self, List.range'_zero, Nat.add_sub_cancel_left, List.range'_one, t17]; with_reducible rfl) ?_
    refine gf356L G a ha _ _ (fun k h n => k ≤ a.length ∧ 4 ≤ n ∧ cmpR (a.drop k) (b.drop k) = 0 ∧ h 0 = some (.cells [.psl (u32s a) a.length] 0 false) ∧ h 1 = some (.cells [.psl (u32s b) b.length] 0 false) ∧ h 2 = some (.cells [.sc (.int .i64 0)] 0 false)) _ ?_ ?_ ⟨Nat.le_refl _, Nat.le_refl _, ?_, rfl, rfl, rfl⟩ rfl
    · rintro k x h n K ⟨hk, h4, hcm, q0, q1, q2⟩ hLp hx hT hF
      have hka : k < a.length := by omega
      have hkb : k < b.length := by omega
      obtain ⟨y, hy⟩ : ∃ y, b[k]? = some y := ⟨b[k]'(by omega), List.getElem?_eq_getElem (by omega)⟩
      have hx' := u32s_at hx
      have hy' := u32s_at hy
      have hda : a.drop k = x :: a.drop (k + 1) := by
        rw [List.getElem?_eq_some_iff] at hx
        obtain ⟨h1, h2⟩ := hx
        rw [List.drop_eq_getElem_cons h1, h2]
      have hdb : b.drop k = y :: b.drop (k + 1) := by
        rw [List.getElem?_eq_some_iff] at hy
        obtain ⟨h1, h2⟩ := hy
        rw [List.drop_eq_getElem_cons h1, h2]
      have hcc : cmpR (a.drop k) (b.drop k) = cmpI x y := by rw [hda, hdb, cmpR, if_pos hcm]
      have hcmp := pc354 G x y
      refine Wk_yield hLp (by kernel_rfl) rfl ?_
      refine wB1 hLp ?_
      refine roundMid_of hLp rfl ?_
      (focus refine wC2 (wa t2 (wa t3 (wa t4 (wa hLp (wa q0 (wa q1 (wa q2 (wa hx' (wa hy' (wa hka hkb)))))))))) (wa hcmp trivial) ?_ ?_; intro hb; rotate_left; intro hb; rotate_left)
      · refine roundEnd_ret rfl ?_
        refine hF _ _ (Nat.le_refl _) (rangeEnd_ret h4 rfl rfl ?_)
        refine wB1 (wa t2 (wa t3 (wa t4 (wa hLp (wa q0 (wa q1 q2)))))) ?_
        simp only [one1, frz_s, Option.map_some]
        rw [cmpR_drop (by simpa using hb) k a b hcc]
      · refine roundEnd_norm rfl ?_
        refine hT _ _ (Nat.le_refl _) ⟨by omega, h4, by rw [hcc]; simpa using hb, q0, q1, q2⟩ rfl
    · rintro h n ⟨_, h4, hcm, q0, q1, q2⟩ hLp
      refine rangeEnd_norm h4 hLp rfl rfl ?_
      simp only [List.drop_zero] at hcm
      refine wB1 (wa t2 (wa t3 (wa t4 (wa hLp (wa q0 (wa q1 q2)))))) ?_
      simp only [one1, frz_s, Option.map_some, hcm]
    · rw [List.drop_of_length_le (Nat.le_refl _), List.drop_of_length_le (by omega)]
      rfl
  · have eL : cmpL a b = cmpI a.length b.length := by unfold cmpL; rw [if_neg hab]
    have hne : ¬ cmpI (a.length : Int) (b.length : Int) = 0 := by unfold cmpI; omega
    rw [eL]
    refine wC1 hne (wa hl trivial) ?_
    simp only [one1, frz_s, Option.map_some]
end Go.Proofs.Bv
namespace Go.Proofs.Bv
open Go
theorem ok111 : codeOk 4 (Tryz.f111.body.getD .skip) = true := by kernel_rfl
theorem pc111 (G : Nat → Option (List AV)) (s : ByteArray) : Pc (Cf G) 111 [.sc (.string s)] (.fn (.func 171) [.pptr [.sc (.string s)] 0]) := by
  refine Pc_of (Gf_enter (C := Cf G) Tryz.func111 rfl ok111 (Nat.le_of_ble_eq_true rfl) ?_)
  simp only [Tryz.f111, Option.getD_some]
  refine wB1 @Array.size_empty.{0} ?_
  all_goals rfl
end Go.Proofs.Bv
namespace Go.Proofs.Bv
open Go
def chkFrom (s : ByteArray) (p : Nat) : Int × Int :=
  if h : p < s.size then (if runeAt s p < 0 then ((p : Int), 61) else chkFrom s (p + wideAt s p)) else ((s.size : Int), 0)
termination_by s.size - p
decreasing_by
  have := wide_rng s p h
  omega
theorem gf171L (G : Nat → Option (List AV)) (s : ByteArray) (hn : s.size ≤ 140737488355328) (b : Nat) (L : LoopA) (J : Nat → Heap → Nat → Prop) (Q : AV → Heap → Nat → Prop)
    (hround : ∀ p h n (K : AV → Heap → Nat → Prop), J p h n → h b = some (.loop L) → p < s.size → (∀ h' n', n ≤ n' → J (p + wideAt s p) h' n' → h' b = some (.loop L) → K (.sc (.bool true)) h' n') → (∀ h' n', n ≤ n' → Q (.tup []) h' n' → K (.sc (.bool false)) h' n') →
      Wk (Cf G) (.fn (.yield b) []) [.sc (.int .i64 p), .sc (.int .i32 (runeAt s p))] h n K)
    (hend : ∀ h n, J s.size h n → h b = some (.loop L) → Q (.tup []) h n) {h : Heap} {n : Nat} (hJ : J 0 h n) (hL : h b = some (.loop L)) : Gf (Cf G) 171 [.fn (.yield b) [], .pptr [.sc (.string s)] 0] h n Q :=
  gf171 G s hn b (fun p h n => J p h n ∧ h b = some (.loop L)) Q (fun p h n K hI hlt hT hF => hround p h n K hI.1 hI.2 hlt (fun h' n' hn hj hl => hT h' n' hn ⟨hj, hl⟩) hF) (fun h n hI => hend h n hI.1 hI.2) ⟨hJ, hL⟩
theorem ok110 : codeOk 15 (Tryz.f110.body.getD .skip) = true := by kernel_rfl
set_option maxHeartbeats 2000000 in
set_option maxRecDepth 100000 in
theorem pc110 (G : Nat → Option (List AV)) (s : ByteArray) (hn : s.size ≤ 140737488355328) : Pc (Cf G) 110 [.sc (.string s)] (.tup [.sc (.int .i64 (chkFrom s 0).1), .sc (.int .i64 (chkFrom s 0).2)]) := by
  have hc := pc111 G s
  refine Pc_of (Gf_enter (C := Cf G) Tryz.func110 rfl ok110 (Nat.le_of_ble_eq_true rfl) ?_)
  simp only [Tryz.f110, Option.getD_some]
  refine wC1 trivial (wa hc trivial) ?_
  refine st_range (by simp only [vop, val, argsT, upd_ap, Nat.reduceEqDiff, if_true, if_false, ite_true, ite_false, reduceIte, loadAt, loadA, AV.cells, AV.one, List.all_cons, List.all_nil, ofV, ofCell, plain, List.getElem?_cons_zero, List.getElem?_cons_succ, List.getElem?_toArray, Option.getD_some, Bool.not_true, Bool.not_false, Bool.false_eq_true, Bool.and_true, Bool.true_and, Bool.and_self, Nat.zero_add, Option.map_some, Option.bind_some, List.map_cons, List.map_nil, ev_add, ev_sub, ev_mul, ev_lss, ev_leq, ev_gtr, ev_geq, ev_eql, ev_neq, ev_seql, ev_sneq, ev_sleq, ev_slss, ev_not, ev_min, ev_max, asNat_nat, asNat_zero, asNat_one, asNat_two, asNat_three, vb_len, List.length_cons, List.length_nil, Nat.reduceAdd, Nat.reduceLeDiff, Nat.reduceMul, Int.reduceEq, Int.reduceLT, Int.reduceLE, Int.reduceNeg, Int.reduceAdd, Int.reduceSub, Nat.reduceLT, decide_true, decide_false, not_true_eq_false, not_false_eq_true, and_self, and_true, true_and, storeA, List.take_zero, List.drop_succ_cons, List.drop_zero, List.nil_append, List.append_nil, List.take_succ_cons, List.cons_append, cut_cons, cut_zero, cut_skip, tAt, hHide, hAt, upsAt, List.contains_cons, List.contains_nil, Nat.reduceBEq, Bool.or_true, Bool.true_or, Bool.or_false, Bool.false_or, Bool.or_self, Bool.and_true, Bool.true_and, Bool.and_false, Bool.false_and, beq_self_eq_true (α := Nat), Option.some_beq_some, Option.none_beq_some, Option.some_beq_none, Bool.false_eq_true, List.all_nil, touch, touchB, Nat.sub_self, List.range'_zero, Nat.add_sub_cancel_left, List.range'_one]; with_reducible rfl) ?_
  refine gf171L G s hn _ _ (fun p h n => 3 ≤ n ∧ chkFrom s p = chkFrom s 0 ∧ h 0 = some (.cells [.sc (.int .i64 0)] 0 false) ∧ h 1 = some (.cells [.sc (.int .i64 0)] 0 false)) _ ?_ ?_ ⟨Nat.le_refl _, rfl, rfl, rfl⟩ rfl
  · rintro p h n K ⟨h3, hch, hh0, hh1⟩ hL hlt hT hF
    have hst : chkFrom s p = if runeAt s p < 0 then ((p : Int), 61) else chkFrom s (p + wideAt s p) := by rw [chkFrom, dif_pos hlt]
    refine Wk_yield hL (by kernel_rfl) rfl ?_
    refine wB1 hL ?_
    refine roundMid_of hL rfl ?_
    (focus refine wB2 (wa hL (wa hh0 hh1)) ?_ ?_; intro hb; rotate_left; intro hb; rotate_left)
    · refine roundEnd_ret rfl ?_
      refine hF _ _ (Nat.le_refl _) (rangeEnd_ret h3 rfl rfl ?_)
      refine wB1 (wa hL (wa hh0 hh1)) ?_
      rw [← hch, hst, if_pos hb]
      rfl
    · refine roundEnd_norm rfl ?_
      refine hT _ _ (Nat.le_refl _) ⟨h3, by rw [← hch, hst, if_neg hb], hh0, hh1⟩ rfl
  · rintro h n ⟨h3, hch, hh0, hh1⟩ hL
    have hst : chkFrom s s.size = ((s.size : Int), 0) := by rw [chkFrom, dif_neg (by omega)]
    refine rangeEnd_norm h3 hL rfl rfl ?_
    refine wB1 (wa hL (wa hh0 hh1)) ?_
    rw [← hch, hst]
    rfl
end Go.Proofs.Bv
namespace Go.Proofs.Bv
open Go
def ints (l : List Int) : List AV := l.map fun x => .sc (.int .i64 x)
theorem ints_len (l : List Int) : (ints l).length = l.length := by simp [ints]
theorem ints_pur : (l : List Int) → purs (ints l) = true
  | [] => rfl
  | _ :: l => by simpa [ints, purs, AV.pur] using ints_pur l
theorem ints_snoc (d : List Int) (x : Int) : ints d ++ [AV.sc (.int .i64 x)] = ints (d ++ [x]) := by simp [ints]
def runesFrom (s : ByteArray) (p : Nat) : List Int := if h : p < s.size then IntKind.i64.wrap (runeAt s p) :: runesFrom s (p + wideAt s p) else []
termination_by s.size - p
decreasing_by
  have := wide_rng s p h
  omega
theorem runes_len (s : ByteArray) (p : Nat) : (runesFrom s p).length ≤ s.size - p := by
  rw [runesFrom]
  split
  · rename_i h
    have := wide_rng s p h
    have := runes_len s (p + wideAt s p)
    simp only [List.length_cons]
    omega
  · simp
termination_by s.size - p
def OwnI (x : AV) (h : Heap) (n lo : Nat) (l : List Int) : Prop := (x = .nilS ∧ l = []) ∨ ∃ b, x = .osl b 0 l.length ∧ h b = some (.cells (ints l) 1 false) ∧ lo ≤ b ∧ b < n
theorem ok60 : codeOk 27 (Tryz.f60.body.getD .skip) = true := by kernel_rfl
theorem ok53 : codeOk 14 (Tryz.f53.body.getD .skip) = true := by kernel_rfl
set_option maxHeartbeats 4000000 in
set_option maxRecDepth 100000 in
theorem pc60 (G : Nat → Option (List AV)) (s : ByteArray) (hn : s.size * 8 ≤ 140737488355328) : Pc (Cf G) 60 [.sc (.string s)] (if (chkFrom s 0).2 = 0 then .tup [.psl (ints (runesFrom s 0)) (runesFrom s 0).length, .sc (.int .i64 0)] else .tup [.psl [] 0, .sc (.int .i64 (chkFrom s 0).2)]) := by
  have h1 := pc110 G s (by omega)
  have h2 := pc111 G s
  generalize (chkFrom s 0).1 = c1 at *
  generalize (chkFrom s 0).2 = c2 at *
  by_cases h0 : c2 = 0
  · subst h0
    rw [if_pos rfl]
    refine Pc_of (Gf_enter (C := Cf G) Tryz.func60 rfl ok60 (Nat.le_of_ble_eq_true rfl) ?_)
    simp only [Tryz.f60, Option.getD_some]
    refine wC1 trivial (wa h1 (wa h2 trivial)) ?_
    refine st_range (by simp only [vop, val, argsT, upd_ap, Nat.reduceEqDiff, if_true, if_false, ite_true, ite_false, reduceIte, loadAt, loadA, AV.cells, AV.one, List.all_cons, List.all_nil, ofV, ofCell, plain, List.getElem?_cons_zero, List.getElem?_cons_succ, List.getElem?_toArray, Option.getD_some, Bool.not_true, Bool.not_false, Bool.false_eq_true, Bool.and_true, Bool.true_and, Bool.and_self, Nat.zero_add, Option.map_some, Option.bind_some, List.map_cons, List.map_nil, ev_add, ev_sub, ev_mul, ev_lss, ev_leq, ev_gtr, ev_geq, ev_eql, ev_neq, ev_seql, ev_sneq, ev_sleq, ev_slss, ev_not, ev_min, ev_max, asNat_nat, asNat_zero, asNat_one, asNat_two, asNat_three, vb_len, List.length_cons, List.length_nil, Nat.reduceAdd, Nat.reduceLeDiff, Nat.reduceMul, Int.reduceEq, Int.reduceLT, Int.reduceLE, Int.reduceNeg, Int.reduceAdd, Int.reduceSub, Nat.reduceLT, decide_true, decide_false, not_true_eq_false, not_false_eq_true, and_self, and_true, true_and, storeA, List.take_zero, List.drop_succ_cons, List.drop_zero, List.nil_append, List.append_nil, List.take_succ_cons, List.cons_append, cut_cons, cut_zero, cut_skip, tAt, hHide, hAt, upsAt, List.contains_cons, List.contains_nil, Nat.reduceBEq, Bool.or_true, Bool.true_or, Bool.or_false, Bool.false_or, Bool.or_self, Bool.and_true, Bool.true_and, Bool.and_false, Bool.false_and, beq_self_eq_true (α := Nat), Option.some_beq_some, Option.none_beq_some, Option.some_beq_none, Bool.false_eq_true, List.all_nil, touch, touchB, Nat.sub_self, List.range'_zero, Nat.add_sub_cancel_left, List.range'_one]; with_reducible rfl) ?_
    refine gf171L G s (by omega) _ _ (fun p h n => 2 ≤ n ∧ p ≤ s.size ∧ ∃ x out, h 0 = some (.cells [x] 0 false) ∧ OwnI x h n 2 out ∧ out ++ runesFrom s p = runesFrom s 0) _ ?_ ?_ ⟨Nat.le_refl _, by omega, .nilS, [], rfl, .inl ⟨rfl, rfl⟩, rfl⟩ rfl
    · rintro p h n K ⟨hn2, hp, x, out, q0, ho, hr⟩ hL hlt hT hF
      have hst : runesFrom s p = IntKind.i64.wrap (runeAt s p) :: runesFrom s (p + wideAt s p) := by rw [runesFrom, dif_pos hlt]
      have hol : out.length + 1 ≤ s.size := by
        have := runes_len s 0
        rw [← hr, hst] at this
        simp at this
        omega
      have hw := wide_rng s p hlt
      have g1 : (out.length + 1) * 8 ≤ 140737488355328 := by omega
      have g2 : out.length + 1 ≤ 140737488355328 := by omega
      have g3 : out.length * 1 ≤ (ints out).length := by rw [ints_len]; omega
      have g4 : cut (ints out) 0 (out.length * 1) = ints out := by rw [cut, List.drop_zero, Nat.mul_one, List.take_of_length_le (by rw [ints_len]; omega)]
      have hr2 : (out ++ [IntKind.i64.wrap (runeAt s p)]) ++ runesFrom s (p + wideAt s p) = runesFrom s 0 := by rw [← hr, hst]; simp
      have hn0 : ¬ n = 0 := by omega
      have hn1 : ¬ n = 1 := by omega
      have h0n : ¬ 0 = n := by omega
      have h1n : ¬ 1 = n := by omega
      have h01 : ¬ 0 = n + 1 := by omega
      have h11 : ¬ 1 = n + 1 := by omega
      refine Wk_yield hL (by kernel_rfl) rfl ?_
      refine wB1 hL ?_
      refine roundMid_of hL rfl ?_
      rcases ho with ⟨rfl, rfl⟩ | ⟨b, rfl, hb, hb2, hbn⟩
      · refine wB1 (wa hL (wa q0 (wa hn0 (wa @hn1 (wa h0n h1n))))) ?_
        refine roundEnd_norm (by simp only [vop, val, argsT, upd_ap, Nat.reduceEqDiff, if_true, if_false, ite_true, ite_false, reduceIte, loadAt, loadA, AV.cells, AV.one, List.all_cons, List.all_nil, ofV, ofCell, plain, List.getElem?_cons_zero, List.getElem?_cons_succ, List.getElem?_toArray, Option.getD_some, Bool.not_true, Bool.not_false, Bool.false_eq_true, Bool.and_true, Bool.true_and, Bool.and_self, Nat.zero_add, Option.map_some, Option.bind_some, List.map_cons, List.map_nil, ev_add, ev_sub, ev_mul, ev_lss, ev_leq, ev_gtr, ev_geq, ev_eql, ev_neq, ev_seql, ev_sneq, ev_sleq, ev_slss, ev_not, ev_min, ev_max, asNat_nat, asNat_zero, asNat_one, asNat_two, asNat_three, vb_len, List.length_cons, List.length_nil, Nat.reduceAdd, Nat.reduceLeDiff, Nat.reduceMul, Int.reduceEq, Int.reduceLT, Int.reduceLE, Int.reduceNeg, Int.reduceAdd, Int.reduceSub, Nat.reduceLT, decide_true, decide_false, not_true_eq_false, not_false_eq_true, and_self, and_true, true_and, storeA, List.take_zero, List.drop_succ_cons, List.drop_zero, List.nil_append, List.append_nil, List.take_succ_cons, List.cons_append, cut_cons, cut_zero, cut_skip, tAt, hHide, hAt, upsAt, List.contains_cons, List.contains_nil, Nat.reduceBEq, Bool.or_true, Bool.true_or, Bool.or_false, Bool.false_or, Bool.or_self, Bool.and_true, Bool.true_and, Bool.and_false, Bool.false_and, beq_self_eq_true (α := Nat), Option.some_beq_some, Option.none_beq_some, Option.some_beq_none, Bool.false_eq_true, List.all_nil, touch, touchB, Nat.sub_self, List.range'_zero, Nat.add_sub_cancel_left, List.range'_one, hn0, hn1, h0n, h1n, h01, h11, hL]; with_reducible rfl) ?_
        refine hT _ _ (by simp only; omega) ⟨by simp only; omega, hw.2, .osl (n + 1) 0 1, [IntKind.i64.wrap (runeAt s p)], ?_, .inr ⟨n + 1, rfl, ?_, by omega, by simp only; omega⟩, ?_⟩ ?_
        · simp [upd_ap, h0n]
        · simp [upd_ap, ints, hn0, hn1]
        · simpa using hr2
        · simp [upd_ap, hL]
      · have hbn' : ¬ b = n := by omega
        have hnb : ¬ n = b := by omega
        have hb0 : ¬ b = 0 := by omega
        have hb1 : ¬ b = 1 := by omega
        have h0b : ¬ 0 = b := by omega
        have h1b : ¬ 1 = b := by omega
        refine wB1 (wa hL (wa q0 (wa hn0 (wa @hn1 (wa h0n (wa h1n (wa hb (wa hbn' (wa hnb (wa hb0 (wa hb1 (wa h0b (wa h1b (wa g1 (wa g2 (wa g3 (wa g4 @ints_snoc))))))))))))))))) ?_
        refine roundEnd_norm (by simp only [vop, val, argsT, upd_ap, Nat.reduceEqDiff, if_true, if_false, ite_true, ite_false, reduceIte, loadAt, loadA, AV.cells, AV.one, List.all_cons, List.all_nil, ofV, ofCell, plain, List.getElem?_cons_zero, List.getElem?_cons_succ, List.getElem?_toArray, Option.getD_some, Bool.not_true, Bool.not_false, Bool.false_eq_true, Bool.and_true, Bool.true_and, Bool.and_self, Nat.zero_add, Option.map_some, Option.bind_some, List.map_cons, List.map_nil, ev_add, ev_sub, ev_mul, ev_lss, ev_leq, ev_gtr, ev_geq, ev_eql, ev_neq, ev_seql, ev_sneq, ev_sleq, ev_slss, ev_not, ev_min, ev_max, asNat_nat, asNat_zero, asNat_one, asNat_two, asNat_three, vb_len, List.length_cons, List.length_nil, Nat.reduceAdd, Nat.reduceLeDiff, Nat.reduceMul, Int.reduceEq, Int.reduceLT, Int.reduceLE, Int.reduceNeg, Int.reduceAdd, Int.reduceSub, Nat.reduceLT, decide_true, decide_false, not_true_eq_false, not_false_eq_true, and_self, and_true, true_and, storeA, List.take_zero, List.drop_succ_cons, List.drop_zero, List.nil_append, List.append_nil, List.take_succ_cons, List.cons_append, cut_cons, cut_zero, cut_skip, tAt, hHide, hAt, upsAt, List.contains_cons, List.contains_nil, Nat.reduceBEq, Bool.or_true, Bool.true_or, Bool.or_false, Bool.false_or, Bool.or_self, Bool.and_true, Bool.true_and, Bool.and_false, Bool.false_and, beq_self_eq_true (α := Nat), Option.some_beq_some, Option.none_beq_some, Option.some_beq_none, Bool.false_eq_true, List.all_nil, touch, touchB, Nat.sub_self, List.range'_zero, Nat.add_sub_cancel_left, List.range'_one, hn0, hn1, h0n, h1n, h01, h11, h0b, h1b, hL]; with_reducible rfl) ?_
        refine hT _ _ (by simp only; omega) ⟨by simp only; omega, hw.2, .osl (n + 1) 0 (out.length + 1), out ++ [IntKind.i64.wrap (runeAt s p)], ?_, .inr ⟨n + 1, by simp, ?_, by omega, by simp only; omega⟩, ?_⟩ ?_
        · simp [upd_ap, h0n, h0b]
        · simp [upd_ap, hn0, hn1]
        · exact hr2
        · simp [upd_ap, hL]
    · rintro h n ⟨hn2, hp, x, out, q0, ho, hr⟩ hL
      have hst : runesFrom s s.size = [] := by rw [runesFrom, dif_neg (by omega)]
      rw [hst, List.append_nil] at hr
      refine rangeEnd_norm (by omega) hL rfl rfl ?_
      rcases ho with ⟨rfl, rfl⟩ | ⟨b, rfl, hb, hb2, hbn⟩
      · refine wB1 (wa hL q0) ?_
        rw [← hr]
        simp only [one1, frz_t, frz_n, mapF, frz_s, Option.map_some, List.append_nil]
        rfl
      · refine wB1 (wa hL q0) ?_
        rw [← hr]
        simp only [one1, frz_t]
        simp only [mapF, frz_s]
        have hb1 : ¬ b = 1 := by omega
        rw [frz_w (by simp only [vop, val, argsT, upd_ap, Nat.reduceEqDiff, if_true, if_false, ite_true, ite_false, reduceIte, loadAt, loadA, AV.cells, AV.one, List.all_cons, List.all_nil, ofV, ofCell, plain, List.getElem?_cons_zero, List.getElem?_cons_succ, List.getElem?_toArray, Option.getD_some, Bool.not_true, Bool.not_false, Bool.false_eq_true, Bool.and_true, Bool.true_and, Bool.and_self, Nat.zero_add, Option.map_some, Option.bind_some, List.map_cons, List.map_nil, ev_add, ev_sub, ev_mul, ev_lss, ev_leq, ev_gtr, ev_geq, ev_eql, ev_neq, ev_seql, ev_sneq, ev_sleq, ev_slss, ev_not, ev_min, ev_max, asNat_nat, asNat_zero, asNat_one, asNat_two, asNat_three, vb_len, List.length_cons, List.length_nil, Nat.reduceAdd, Nat.reduceLeDiff, Nat.reduceMul, Int.reduceEq, Int.reduceLT, Int.reduceLE, Int.reduceNeg, Int.reduceAdd, Int.reduceSub, Nat.reduceLT, decide_true, decide_false, not_true_eq_false, not_false_eq_true, and_self, and_true, true_and, storeA, List.take_zero, List.drop_succ_cons, List.drop_zero, List.nil_append, List.append_nil, List.take_succ_cons, List.cons_append, cut_cons, cut_zero, cut_skip, tAt, hHide, hAt, upsAt, List.contains_cons, List.contains_nil, Nat.reduceBEq, Bool.or_true, Bool.true_or, Bool.or_false, Bool.false_or, Bool.or_self, Bool.and_true, Bool.true_and, Bool.and_false, Bool.false_and, beq_self_eq_true (α := Nat), Option.some_beq_some, Option.none_beq_some, Option.some_beq_none, Bool.false_eq_true, List.all_nil, touch, touchB, Nat.sub_self, List.range'_zero, Nat.add_sub_cancel_left, List.range'_one, hb, hb1]; with_reducible rfl) (by rw [ints_len, Nat.mul_one]) (ints_pur out)]
        rfl
  · rw [if_neg h0]
    refine Pc_of (Gf_enter (C := Cf G) Tryz.func60 rfl ok60 (Nat.le_of_ble_eq_true rfl) ?_)
    simp only [Tryz.f60, Option.getD_some]
    refine wC1 h0 (wa h1 (wa h2 trivial)) ?_
    simp only [one1, frz_t, frz_n, mapF, frz_s, Option.map_some, List.append_nil]
def cntS (s : ByteArray) : Nat := if (chkFrom s 0).2 = 0 then (runesFrom s 0).length else 0
theorem cnt_le (s : ByteArray) : cntS s ≤ s.size := by
  have := runes_len s 0
  unfold cntS
  split <;> omega
theorem pc53 (G : Nat → Option (List AV)) (s : ByteArray) (hn : s.size * 8 ≤ 140737488355328) : Pc (Cf G) 53 [.sc (.string s)] (.tup [.sc (.int .i64 (cntS s)), .sc (.int .i64 (chkFrom s 0).2)]) := by
  have h1 := pc60 G s hn
  unfold cntS
  generalize (chkFrom s 0).2 = c2 at *
  by_cases h0 : c2 = 0
  · subst h0
    rw [if_pos rfl] at h1 ⊢
    refine Pc_of (Gf_enter (C := Cf G) Tryz.func53 rfl ok53 (Nat.le_of_ble_eq_true rfl) ?_)
    simp only [Tryz.f53, Option.getD_some]
    refine wC1 trivial (wa h1 trivial) ?_
    simp only [one1, frz_t, mapF, frz_s, Option.map_some, List.append_nil]
  · rw [if_neg h0] at h1 ⊢
    refine Pc_of (Gf_enter (C := Cf G) Tryz.func53 rfl ok53 (Nat.le_of_ble_eq_true rfl) ?_)
    simp only [Tryz.f53, Option.getD_some]
    refine wC1 trivial (wa h1 trivial) ?_
    simp only [one1, frz_t, mapF, frz_s, Option.map_some, List.append_nil, Int.natCast_zero]
end Go.Proofs.Bv
namespace Go.Proofs.Bv
open Go
def letters (s : ByteArray) : Int := if (chkFrom s 0).2 = 0 then (if 16384 < (s.size : Int) then 5 else 0) else (chkFrom s 0).2
theorem ok220 : codeOk 16 (Tryz.f220.body.getD .skip) = true := by kernel_rfl
set_option maxHeartbeats 2000000 in
set_option maxRecDepth 100000 in
theorem pc220 (G : Nat → Option (List AV)) (s : ByteArray) (hn : s.size ≤ 140737488355328) : Pc (Cf G) 220 [.sc (.string s)] (.sc (.int .i64 (letters s))) := by
  have hc := pc110 G s hn
  unfold letters
  generalize chkFrom s 0 = e at hc
  obtain ⟨a, e⟩ := e
  simp only at hc
  refine Pc_of (Gf_enter (C := Cf G) Tryz.func220 rfl ok220 (Nat.le_of_ble_eq_true rfl) ?_)
  simp only [Tryz.f220, Option.getD_some]
  by_cases he : e = 0
  · by_cases hl : 16384 < (s.size : Int)
    · refine wC1 (wa he hl) (wa hc trivial) ?_
      simp only [one1, frz_sc, Option.map_some, he, hl, if_true]
    · refine wC1 (wa he hl) (wa hc trivial) ?_
      simp only [one1, frz_sc, Option.map_some, he, hl, if_true, if_false]
  · refine wC1 he (wa hc trivial) ?_
    simp only [one1, frz_sc, Option.map_some, he, if_false]
end Go.Proofs.Bv
namespace Go.Proofs.Bv
open Go
theorem ok282 : codeOk 28 (Tryz.f282.body.getD .skip) = true := by kernel_rfl
def Half (l cs : List AV) (i j : Int) : Prop := cs.length = l.length ∧ ∀ p : Nat, p < l.length → cs[p]? = if (p : Int) < i ∨ j < (p : Int) then l[l.length - 1 - p]? else l[p]?
theorem Half.done {l cs : List AV} {i j : Int} (h : Half l cs i j) (hij : i + j = (l.length : Int) - 1) (hge : ¬ i < j) : cs = l.reverse := by
  apply List.ext_getElem?
  intro p
  rcases Nat.lt_or_ge p l.length with hp | hp
  · rw [h.2 p hp, List.getElem?_reverse hp]
    split
    · rfl
    · have : l.length - 1 - p = p := by omega
      rw [this]
  · rw [List.getElem?_eq_none (by rw [h.1]; omega), List.getElem?_eq_none (by simp; omega)]
theorem Half.swap {l cs : List AV} {i j : Nat} {x y : AV} (h : Half l cs i j) (hij : (i : Int) + j = (l.length : Int) - 1) (hlt : i < j) (hx : cs[i]? = some x) (hy : cs[j]? = some y) :
    Half l ((cs.set i y).set j x) (i + 1) (j - 1) := by
  refine ⟨by simp [h.1], fun p hp => ?_⟩
  have hix : l[i]? = some x := by
    have := h.2 i (by omega)
    rw [if_neg (by omega), hx] at this
    exact this.symm
  have hjy : l[j]? = some y := by
    have := h.2 j (by omega)
    rw [if_neg (by omega), hy] at this
    exact this.symm
  rw [List.getElem?_set, List.getElem?_set]
  by_cases e1 : j = p
  · subst e1
    rw [if_pos rfl, if_pos (by simp [h.1]; omega), if_pos (by omega)]
    have : l.length - 1 - j = i := by omega
    rw [this, hix]
  · rw [if_neg e1]
    by_cases e2 : i = p
    · subst e2
      rw [if_pos rfl, if_pos (by rw [h.1]; omega), if_pos (by omega)]
      have : l.length - 1 - i = j := by omega
      rw [this, hjy]
    · rw [if_neg e2, h.2 p hp]
      by_cases c : (p : Int) < i ∨ (j : Int) < p
      · rw [if_pos c, if_pos (by omega)]
      · rw [if_neg c, if_neg (by omega)]
theorem store_one {cs : List AV} {i : Nat} {y : AV} (hi : i < cs.length) : cs.take i ++ [y] ++ cs.drop (i + 1) = cs.set i y := by
  rw [List.set_eq_take_append_cons_drop, if_pos hi, List.append_assoc]
  rfl
set_option maxHeartbeats 4000000 in
set_option maxRecDepth 100000 in
theorem gf282 (G : Nat → Option (List AV)) (l : List AV) (hone : ∀ x ∈ l, ∃ v, x = .sc v) (hl : l.length ≤ 140737488355328) (b : Nat) {h : Heap} {n : Nat} (hb : h b = some (.cells l 1 false)) (Q : AV → Heap → Nat → Prop)
    (hq : Q (.tup []) (upd h b (some (.cells l.reverse 1 false))) n) : Gf (Cf G) 282 [.osl b 0 l.length] h n Q := by
  have w0 : IntKind.i64.wrap ((l.length : Int) - 1) = (l.length : Int) - 1 := i64 (by omega) (by omega)
  refine Gf_enter (C := Cf G) Tryz.func282 rfl ok282 (Nat.le_of_ble_eq_true rfl) ?_
  simp only [Tryz.f282, Option.getD_some]
  refine wB1 w0 ?_
  refine Gc_loop_inv (fun m st => ∃ (i : Nat) (j : Int) (cs : List AV), m = (j + 1 - i).toNat ∧ (i : Int) + j = (l.length : Int) - 1 ∧ -1 ≤ j ∧ st.T 0 = .osl b 0 l.length ∧ st.T 2 = .sc (.int .i64 i) ∧ st.T 3 = .sc (.int .i64 j) ∧ st.n = n ∧ Half l cs i j ∧ (∀ x ∈ cs, x ∈ l) ∧ st.h = upd h b (some (.cells cs 1 false))) ?_ _ _ ⟨0, (l.length : Int) - 1, l, rfl, by omega, by omega, ?_⟩
  · rintro m ⟨T, h', n'⟩ ⟨i, j, cs, rfl, hij, hj1, h0, h2, h3, rfl, hh, hmem, rfl⟩
    simp only at h0 h2 h3
    by_cases hlt : (i : Int) < j
    · obtain ⟨j', rfl⟩ : ∃ j' : Nat, j = j' := ⟨j.toNat, by omega⟩
      have hcl := hh.1
      have hil : i < l.length := by omega
      have hjl : j' < l.length := by omega
      have hic : i < cs.length := by omega
      have hjc : j' < cs.length := by omega
      obtain ⟨x, hx⟩ : ∃ x, cs[i]? = some x := ⟨cs[i]'hic, List.getElem?_eq_getElem hic⟩
      obtain ⟨y, hy⟩ : ∃ y, cs[j']? = some y := ⟨cs[j']'hjc, List.getElem?_eq_getElem hjc⟩
      have hmx := hmem x (List.mem_of_getElem? hx)
      have hmy := hmem y (List.mem_of_getElem? hy)
      obtain ⟨x, rfl⟩ := hone x hmx
      obtain ⟨y, rfl⟩ := hone y hmy
      have hx' : cs[i * 1]? = some (.sc x) := by rw [Nat.mul_one]; exact hx
      have hy' : cs[j' * 1]? = some (.sc y) := by rw [Nat.mul_one]; exact hy
      have s1 : cs.take (i * 1) ++ [.sc y] ++ cs.drop (i * 1 + 1) = cs.set i (.sc y) := by rw [Nat.mul_one]; exact store_one hic
      have s2 : (cs.set i (.sc y)).take (j' * 1) ++ [.sc x] ++ (cs.set i (.sc y)).drop (j' * 1 + 1) = (cs.set i (.sc y)).set j' (.sc x) := by rw [Nat.mul_one]; exact store_one (by simpa using hjc)
      have b1 : i * 1 + 1 ≤ cs.length := by omega
      have b2 : j' * 1 + 1 ≤ cs.length := by omega
      have wi : IntKind.i64.wrap ((i : Int) + 1) = (i : Int) + 1 := i64 (by omega) (by omega)
      have wj : IntKind.i64.wrap ((j' : Int) - 1) = (j' : Int) - 1 := i64 (by omega) (by omega)
      refine gB1 (wa h0 (wa h2 (wa h3 (wa hlt (wa hil (wa hjl (wa hx' (wa hy' (wa s1 (wa s2 (wa b1 (wa b2 (wa wi (wa wj @List.length_set.{0})))))))))))))) ?_
      refine ⟨_, ?_, i + 1, (j' : Int) - 1, (cs.set i (.sc y)).set j' (.sc x), rfl, by omega, by omega, ?_, ?_, ?_, rfl, hh.swap hij (by omega) hx hy, ?_, ?_⟩
      · omega
      · simp only [vop, val, argsT, upd_ap, Nat.reduceEqDiff, if_true, if_false, ite_true, ite_false, reduceIte, loadAt, loadA, AV.cells, AV.one, List.all_cons, List.all_nil, ofV, ofCell, plain, List.getElem?_cons_zero, List.getElem?_cons_succ, List.getElem?_toArray, Option.getD_some, Bool.not_true, Bool.not_false, Bool.false_eq_true, Bool.and_true, Bool.true_and, Bool.and_self, Nat.zero_add, Option.map_some, Option.bind_some, List.map_cons, List.map_nil, ev_add, ev_sub, ev_mul, ev_lss, ev_leq, ev_gtr, ev_geq, ev_eql, ev_neq, ev_seql, ev_sneq, ev_sleq, ev_slss, ev_not, ev_min, ev_max, asNat_nat, asNat_zero, asNat_one, asNat_two, asNat_three, vb_len, List.length_cons, List.length_nil, Nat.reduceAdd, Nat.reduceLeDiff, Nat.reduceMul, Int.reduceEq, Int.reduceLT, Int.reduceLE, Int.reduceNeg, Int.reduceAdd, Int.reduceSub, Nat.reduceLT, decide_true, decide_false, not_true_eq_false, not_false_eq_true, and_self, and_true, true_and, storeA, List.take_zero, List.drop_succ_cons, List.drop_zero, List.nil_append, List.append_nil, List.take_succ_cons, List.cons_append, cut_cons, cut_zero, cut_skip, tAt, hHide, hAt, upsAt, List.contains_cons, List.contains_nil, Nat.reduceBEq, Bool.or_true, Bool.true_or, Bool.or_false, Bool.false_or, Bool.or_self, Bool.and_true, Bool.true_and, Bool.and_false, Bool.false_and, beq_self_eq_true (α := Nat), Option.some_beq_some, Option.none_beq_some, Option.some_beq_none, Bool.false_eq_true, List.all_nil, touch, touchB, Nat.sub_self, List.range'_zero, Nat.add_sub_cancel_left, List.range'_one, h0]
      · simp only [vop, val, argsT, upd_ap, Nat.reduceEqDiff, if_true, if_false, ite_true, ite_false, reduceIte, loadAt, loadA, AV.cells, AV.one, List.all_cons, List.all_nil, ofV, ofCell, plain, List.getElem?_cons_zero, List.getElem?_cons_succ, List.getElem?_toArray, Option.getD_some, Bool.not_true, Bool.not_false, Bool.false_eq_true, Bool.and_true, Bool.true_and, Bool.and_self, Nat.zero_add, Option.map_some, Option.bind_some, List.map_cons, List.map_nil, ev_add, ev_sub, ev_mul, ev_lss, ev_leq, ev_gtr, ev_geq, ev_eql, ev_neq, ev_seql, ev_sneq, ev_sleq, ev_slss, ev_not, ev_min, ev_max, asNat_nat, asNat_zero, asNat_one, asNat_two, asNat_three, vb_len, List.length_cons, List.length_nil, Nat.reduceAdd, Nat.reduceLeDiff, Nat.reduceMul, Int.reduceEq, Int.reduceLT, Int.reduceLE, Int.reduceNeg, Int.reduceAdd, Int.reduceSub, Nat.reduceLT, decide_true, decide_false, not_true_eq_false, not_false_eq_true, and_self, and_true, true_and, storeA, List.take_zero, List.drop_succ_cons, List.drop_zero, List.nil_append, List.append_nil, List.take_succ_cons, List.cons_append, cut_cons, cut_zero, cut_skip, tAt, hHide, hAt, upsAt, List.contains_cons, List.contains_nil, Nat.reduceBEq, Bool.or_true, Bool.true_or, Bool.or_false, Bool.false_or, Bool.or_self, Bool.and_true, Bool.true_and, Bool.and_false, Bool.false_and, beq_self_eq_true (α := Nat), Option.some_beq_some, Option.none_beq_some, Option.some_beq_none, Bool.false_eq_true, List.all_nil, touch, touchB, Nat.sub_self, List.range'_zero, Nat.add_sub_cancel_left, List.range'_one, wi]
        rfl
      · simp only [vop, val, argsT, upd_ap, Nat.reduceEqDiff, if_true, if_false, ite_true, ite_false, reduceIte, loadAt, loadA, AV.cells, AV.one, List.all_cons, List.all_nil, ofV, ofCell, plain, List.getElem?_cons_zero, List.getElem?_cons_succ, List.getElem?_toArray, Option.getD_some, Bool.not_true, Bool.not_false, Bool.false_eq_true, Bool.and_true, Bool.true_and, Bool.and_self, Nat.zero_add, Option.map_some, Option.bind_some, List.map_cons, List.map_nil, ev_add, ev_sub, ev_mul, ev_lss, ev_leq, ev_gtr, ev_geq, ev_eql, ev_neq, ev_seql, ev_sneq, ev_sleq, ev_slss, ev_not, ev_min, ev_max, asNat_nat, asNat_zero, asNat_one, asNat_two, asNat_three, vb_len, List.length_cons, List.length_nil, Nat.reduceAdd, Nat.reduceLeDiff, Nat.reduceMul, Int.reduceEq, Int.reduceLT, Int.reduceLE, Int.reduceNeg, Int.reduceAdd, Int.reduceSub, Nat.reduceLT, decide_true, decide_false, not_true_eq_false, not_false_eq_true, and_self, and_true, true_and, storeA, List.take_zero, List.drop_succ_cons, List.drop_zero, List.nil_append, List.append_nil, List.take_succ_cons, List.cons_append, cut_cons, cut_zero, cut_skip, tAt, hHide, hAt, upsAt, List.contains_cons, List.contains_nil, Nat.reduceBEq, Bool.or_true, Bool.true_or, Bool.or_false, Bool.false_or, Bool.or_self, Bool.and_true, Bool.true_and, Bool.and_false, Bool.false_and, beq_self_eq_true (α := Nat), Option.some_beq_some, Option.none_beq_some, Option.some_beq_none, Bool.false_eq_true, List.all_nil, touch, touchB, Nat.sub_self, List.range'_zero, Nat.add_sub_cancel_left, List.range'_one, wj]
      · intro z hz
        rcases List.mem_or_eq_of_mem_set hz with hz | rfl
        · rcases List.mem_or_eq_of_mem_set hz with hz | rfl
          · exact hmem z hz
          · exact hmy
        · exact hmx
      · funext c
        by_cases hc : c = b
        · subst hc
          simp only [vop, val, argsT, upd_ap, Nat.reduceEqDiff, if_true, if_false, ite_true, ite_false, reduceIte, loadAt, loadA, AV.cells, AV.one, List.all_cons, List.all_nil, ofV, ofCell, plain, List.getElem?_cons_zero, List.getElem?_cons_succ, List.getElem?_toArray, Option.getD_some, Bool.not_true, Bool.not_false, Bool.false_eq_true, Bool.and_true, Bool.true_and, Bool.and_self, Nat.zero_add, Option.map_some, Option.bind_some, List.map_cons, List.map_nil, ev_add, ev_sub, ev_mul, ev_lss, ev_leq, ev_gtr, ev_geq, ev_eql, ev_neq, ev_seql, ev_sneq, ev_sleq, ev_slss, ev_not, ev_min, ev_max, asNat_nat, asNat_zero, asNat_one, asNat_two, asNat_three, vb_len, List.length_cons, List.length_nil, Nat.reduceAdd, Nat.reduceLeDiff, Nat.reduceMul, Int.reduceEq, Int.reduceLT, Int.reduceLE, Int.reduceNeg, Int.reduceAdd, Int.reduceSub, Nat.reduceLT, decide_true, decide_false, not_true_eq_false, not_false_eq_true, and_self, and_true, true_and, storeA, List.take_zero, List.drop_succ_cons, List.drop_zero, List.nil_append, List.append_nil, List.take_succ_cons, List.cons_append, cut_cons, cut_zero, cut_skip, tAt, hHide, hAt, upsAt, List.contains_cons, List.contains_nil, Nat.reduceBEq, Bool.or_true, Bool.true_or, Bool.or_false, Bool.false_or, Bool.or_self, Bool.and_true, Bool.true_and, Bool.and_false, Bool.false_and, beq_self_eq_true (α := Nat), Option.some_beq_some, Option.none_beq_some, Option.some_beq_none, Bool.false_eq_true, List.all_nil, touch, touchB, Nat.sub_self, List.range'_zero, Nat.add_sub_cancel_left, List.range'_one, s1, s2]
        · simp only [vop, val, argsT, upd_ap, Nat.reduceEqDiff, if_true, if_false, ite_true, ite_false, reduceIte, loadAt, loadA, AV.cells, AV.one, List.all_cons, List.all_nil, ofV, ofCell, plain, List.getElem?_cons_zero, List.getElem?_cons_succ, List.getElem?_toArray, Option.getD_some, Bool.not_true, Bool.not_false, Bool.false_eq_true, Bool.and_true, Bool.true_and, Bool.and_self, Nat.zero_add, Option.map_some, Option.bind_some, List.map_cons, List.map_nil, ev_add, ev_sub, ev_mul, ev_lss, ev_leq, ev_gtr, ev_geq, ev_eql, ev_neq, ev_seql, ev_sneq, ev_sleq, ev_slss, ev_not, ev_min, ev_max, asNat_nat, asNat_zero, asNat_one, asNat_two, asNat_three, vb_len, List.length_cons, List.length_nil, Nat.reduceAdd, Nat.reduceLeDiff, Nat.reduceMul, Int.reduceEq, Int.reduceLT, Int.reduceLE, Int.reduceNeg, Int.reduceAdd, Int.reduceSub, Nat.reduceLT, decide_true, decide_false, not_true_eq_false, not_false_eq_true, and_self, and_true, true_and, storeA, List.take_zero, List.drop_succ_cons, List.drop_zero, List.nil_append, List.append_nil, List.take_succ_cons, List.cons_append, cut_cons, cut_zero, cut_skip, tAt, hHide, hAt, upsAt, List.contains_cons, List.contains_nil, Nat.reduceBEq, Bool.or_true, Bool.true_or, Bool.or_false, Bool.false_or, Bool.or_self, Bool.and_true, Bool.true_and, Bool.and_false, Bool.false_and, beq_self_eq_true (α := Nat), Option.some_beq_some, Option.none_beq_some, Option.some_beq_none, Bool.false_eq_true, List.all_nil, touch, touchB, Nat.sub_self, List.range'_zero, Nat.add_sub_cancel_left, List.range'_one, hc]
    · have := hh.done hij hlt
      subst this
      refine wB1 (wa h0 (wa h2 (wa h3 hlt))) ?_
      exact hq
  · refine ⟨rfl, rfl, rfl, rfl, ⟨rfl, fun p hp => ?_⟩, fun x hx => hx, ?_⟩
    · rw [if_neg (by omega)]
    · funext c
      by_cases hc : c = b
      · subst hc; simp [upd, hb]
      · simp [upd, hc]
end Go.Proofs.Bv
namespace Go.Proofs.Bv
open Go
def textsK : List ByteArray → Int → Int
  | [], e => e
  | k :: r, e => textsK r (or2 e (letters k))
def texts : JV → Int
  | .mk _ _ _ _ t _ ks => textsK ks (letters t)
theorem bs2 (a b : Int) : fillA (fun i => some (i * 1, 1)) (rep 2 [.sc (.int .i64 0)]) [(0, .sc (.int .i64 a)), (1, .sc (.int .i64 b))] = some [.sc (.int .i64 a), .sc (.int .i64 b)] := rfl
theorem ok153 : codeOk 23 (Tryz.f153.body.getD .skip) = true := by kernel_rfl
set_option maxHeartbeats 2000000 in
set_option maxRecDepth 100000 in
theorem pc153 (G : Nat → Option (List AV)) : (v : JV) → Fit v → Pc (Cf G) 153 [.agg (enc v)] (.sc (.int .i64 (texts v)))
  | .mk kk ng cf ex t l ks => fun hfit => by
    have hc := pc220 G t hfit.1.ntext
    refine Pc_of (Gf_enter (C := Cf G) Tryz.func153 rfl ok153 (Nat.le_of_ble_eq_true rfl) ?_)
    simp only [Tryz.f153, Option.getD_some]
    refine wC1 trivial (wa hc trivial) ?_
    refine Gc_loop_inv (fun m st => ∃ d r e, ks = d ++ r ∧ m = r.length ∧ st.T 10 = .psl (strs ks) ks.length ∧ st.T 11 = .sc (.int .i64 ks.length) ∧ st.T 12 = .sc (.int .i64 d.length) ∧ st.T 3 = .sc (.int .i64 e) ∧ textsK r e = textsK ks (letters t)) ?_ ks.length _ ⟨[], ks, letters t, rfl, rfl, ?_⟩
    · rintro m ⟨T, h, n⟩ ⟨d, r, e, hl, rfl, h10, h11, h12, h3, hs⟩
      simp only at h10 h11 h12 h3
      have hdl : d.length ≤ ks.length := by rw [hl]; simp
      have hnk := hfit.1.nkeys
      cases r with
      | nil =>
        have hge : ¬ (d.length : Int) < (ks.length : Int) := by rw [hl]; simp
        refine wB1 (wa h10 (wa h11 (wa h12 (wa h3 hge)))) ?_
        simp only [one1, frz_sc, Option.map_some, texts, ← hs, textsK]
      | cons k r =>
        have hlt : (d.length : Int) < (ks.length : Int) := by rw [hl]; simp; omega
        have hltn : d.length < ks.length := by omega
        have hk := strs_at hl
        have hkc := pc220 G k (hfit.1.nkey k (by rw [hl]; simp))
        refine wF1 (wa h10 (wa h11 (wa h12 (wa h3 (wa hlt (wa hltn (wa hk @bs2))))))) (wa hkc (wa (pc97 G e (letters k)) trivial)) ?_
        refine ⟨r.length, by simp, d ++ [k], r, or2 e (letters k), by simp [hl], rfl, ?_, ?_, ?_, ?_, ?_⟩
        all_goals try simp [upd_ap, h10, h11]
        · rw [i64 (by omega) (by omega)]
        · simpa only [textsK] using hs
    · simp [upd_ap]
end Go.Proofs.Bv
namespace Go.Proofs.Bv
open Go
theorem ok280 : codeOk 119 (Tryz.f280.body.getD .skip) = true := by kernel_rfl
theorem ok222 : codeOk 27 (Tryz.f222.body.getD .skip) = true := by kernel_rfl
theorem ok161 : codeOk 18 (Tryz.f161.body.getD .skip) = true := by kernel_rfl
theorem TopOk_of_chk {l : List Int} (h : natChk l = 0) : TopOk l ∧ l.length ≤ 256 := by
  unfold natChk at h
  split at h
  · omega
  · split at h
    · omega
    · rename_i h1 h2
      refine ⟨fun x hx e => h2 (by rw [hx, e]), by omega⟩
theorem cmpL_one {a : List Int} {d : Int} (ha : Limbs a) (ht : TopOk a) (hd : 0 < d ∧ d ≤ 4294967295) : cmpL a [d] < 0 ↔ nv a < d := by
  match a, ha, ht with
  | [], _, _ => simp [cmpL, cmpI, nv]; omega
  | [x], _, _ =>
    simp only [cmpL, List.length_cons, List.length_nil, if_true, cmpR, nv, cmpI]
    constructor
    · intro h
      split at h <;> first | omega | (split at h <;> omega)
    · intro h
      rw [if_pos (by omega)]
      omega
  | x :: y :: r, hl, h =>
    have h1 := nv_pos hl.tail h.tail (by simp)
    have h2 := hl.head
    have h3 : ¬ (x :: y :: r).length = [d].length := by simp
    simp only [cmpL, if_neg h3, cmpI, nv] at h1 ⊢
    simp only [List.length_cons, List.length_nil]
    constructor
    · intro h
      rw [if_neg (by omega), if_pos (by omega)] at h
      omega
    · intro h
      omega
theorem div_less {a : List Int} {d : Int} (ha : Limbs a) (ht : TopOk a) (hd : 0 < d ∧ d ≤ 4294967295) (h : nv a < d) : trimL (dmQ a d) = [] ∧ trimL [nv a % d] = a := by
  have h0 := nv_nonneg ha
  constructor
  · have h1 : nv (trimL (dmQ a d)) = 0 := by rw [nv_trim, nv_dmQ hd.1, Int.ediv_eq_zero_of_lt h0 h]
    exact (nv_zero_iff (trim_limbs (dmQ_limbs hd.1 ha)) (trim_top _)).1 h1
  · rw [Int.emod_eq_of_lt h0 h]
    match a, ha, ht, h with
    | [], _, _, _ => simp [nv, trimL]
    | [x], hl, ht, _ =>
      have : x ≠ 0 := ht x (by simp)
      simp [nv, trimL, this]
    | x :: y :: r, hl, ht, h =>
      have h1 := nv_pos hl.tail ht.tail (by simp)
      have h2 := hl.head
      simp only [nv] at h h1
      omega
theorem bs1u (a : Int) : fillA (fun i => some (i * 1, 1)) (rep 1 [.sc (.int .u32 0)]) [(0, .sc (.int .u32 a))] = some [.sc (.int .u32 a)] := rfl
theorem u32s_len1 (l : List Int) : (u32s l).length = l.length * 1 := by simp [u32s]
set_option maxHeartbeats 4000000 in
set_option maxRecDepth 100000 in
theorem pc280 (G : Nat → Option (List AV)) (a : List Int) (d : Int) (hl : a.length * 4 ≤ 140737488355328) (ha : Limbs a) (ht : TopOk a) (hd : 0 < d ∧ d ≤ 4294967295) :
    Pc (Cf G) 280 [.psl (u32s a) a.length, .psl (u32s [d]) 1] (.tup [.psl (u32s (trimL (dmQ a d))) (trimL (dmQ a d)).length, .psl (u32s (trimL [nv a % d])) (trimL [nv a % d]).length]) := by
  have hc := pc327 G a [d] (by omega) (by simp)
  have hs := pc281 G a d hl ha hd
  have ht2 := pc183 G [nv a % d] (by simp)
  have hiff := cmpL_one ha ht hd
  have h1 := u32s_len1 a
  have hpu := u32s_pur a
  simp only [List.length_cons, List.length_nil, Nat.zero_add] at hc ht2
  by_cases h : nv a < d
  · have hlt := hiff.2 h
    obtain ⟨e1, e2⟩ := div_less ha ht hd h
    rw [e1, e2]
    refine Pc_of (Gf_enter (C := Cf G) Tryz.func280 rfl ok280 (Nat.le_of_ble_eq_true rfl) ?_)
    simp only [Tryz.f280, Option.getD_some]
    repeat' first | refine w_op rfl rfl ?_ | refine x_p rfl ?_ | refine w_sr ?_ | refine st_nil ?_ | refine w_seq ?_ | refine st_region ?_ | refine st_block ?_ | refine w_cond ?_ | refine b_t ?_ | refine b_f ?_ | refine st_skip ?_ | refine st_exit ?_ | refine st_ret ?_ | refine st_onNormN ?_ | refine st_onNormE ?_ | refine st_onNormR ?_ | refine st_onExitN ?_ | refine st_onExitR ?_ | refine st_onExitS ?_ | refine st_onExitO (by decide) ?_ | refine g_t ?_ | refine g_f rfl ?_ | refine o_op rfl ?_ | refine w_wr ?_ | refine w_wn ?_ | refine d_c rfl ?_ | refine d_on rfl ?_ | refine d_op rfl ?_ | refine d_y ?_ | refine d_gd rfl ?_ | refine d_t ?_ | refine d_f ?_ | refine d_nil ?_ | refine w_dr rfl ?_ | refine d_q ?_ | refine n_0 rfl ?_ | refine d_n ?_ | refine k_p rfl rfl rfl rfl (hc) ?_ | refine k_o rfl rfl rfl ?_ | refine w_gd rfl ?_ | ((first | refine zE1 ?_ | refine w_cl rfl rfl ?_ | refine o_cl rfl ?_ | refine d_cl rfl ?_); (conv => arg 1; try simp only [go_sem, Nat.reduceEqDiff, reduceIte, Nat.reduceAdd, Nat.reduceLeDiff, Nat.reduceMul, Int.reduceEq, Int.reduceLT, Int.reduceLE, Int.reduceNeg, Int.reduceAdd, Int.reduceSub, Nat.reduceLT, Nat.reduceBEq, Nat.reduceSub, Nat.reducePow, hlt, orcClone, h1, hl, hpu]); first | refine zE3 ?_ | refine zE2 ?_ | refine zE4 ?_ | refine zE5 ?_ | refine zE6 ?_ | refine zE7 ?_ | refine zE8 ?_) | (refine w_u false ?_; (conv => arg 1; reduce); refine zR1 ?_) | (refine b_s (fun hb => ?_) (fun hb => ?_) <;> ((try simp only [hn1, hn2, hn3, hn4] at hb); first | (exfalso; omega) | skip)) | (first | refine g_s (fun hb => ?_) (fun hb => ?_) | refine d_s (fun hb => ?_) (fun hb => ?_)) <;> ((try simp only [hn1, hn2] at hb); rw [hb]; try simp only [hn3, hn4] at hb)
    simp only [one1, frz_t, mapF, frz_l, frz_n, Option.map_some, List.append_nil]
    rfl
  · have hge : ¬ cmpL a [d] < 0 := fun e => h (hiff.1 e)
    have h0 : (u32s [d])[0 * 1]? = some (.sc (.int .u32 d)) := rfl
    have eu : u32s [nv a % d] = [.sc (.int .u32 (nv a % d))] := rfl
    rw [eu] at ht2
    refine Pc_of (Gf_enter (C := Cf G) Tryz.func280 rfl ok280 (Nat.le_of_ble_eq_true rfl) ?_)
    simp only [Tryz.f280, Option.getD_some]
    refine wF1 (wa hge (wa h0 (wa @Nat.zero_lt_one (wa @Int.natCast_one @bs1u)))) (wa hc (wa hs (wa ht2 trivial))) ?_
    simp only [one1, frz_t, mapF, frz_l, frz_n, Option.map_some, List.append_nil]
theorem pc279 (G : Nat → Option (List AV)) (a b : List Int) (ha : a.length ≤ 140737488355328) (hb : b.length ≤ 140737488355328) :
    Pc (Cf G) 279 [.psl (u32s a) a.length, .psl (u32s b) b.length] (.sc (.int .i64 (or2 (natChk a) (natChk b)))) := by
  have h1 := pc160 G a ha
  have h2 := pc160 G b hb
  refine Pc_of (Gf_enter (C := Cf G) Tryz.func279 rfl ok279 (Nat.le_of_ble_eq_true rfl) ?_)
  simp only [Tryz.f279, Option.getD_some]
  refine wF1 @bs2 (wa h1 (wa h2 (wa (pc97 G (natChk a) (natChk b)) trivial))) ?_
  simp only [one1, frz_s, Option.map_some]
theorem pc222 (G : Nat → Option (List AV)) (a : List Int) (d : Int) (hc : natChk a = 0) (ha : Limbs a) (hd : 0 < d ∧ d ≤ 4294967295) :
    Pc (Cf G) 222 [.psl (u32s a) a.length, .psl (u32s [d]) 1] (.tup [.psl (u32s (trimL (dmQ a d))) (trimL (dmQ a d)).length, .psl (u32s (trimL [nv a % d])) (trimL [nv a % d]).length, .sc (.int .i64 0)]) := by
  obtain ⟨ht, hl⟩ := TopOk_of_chk hc
  have h1 := pc279 G a [d] (by omega) (by simp)
  have h2 := pc280 G a d (by omega) ha ht hd
  have e : or2 (natChk a) (natChk [d]) = 0 := by
    have h0 : ¬ d = 0 := by omega
    have e1 : natChk [d] = 0 := by simp [natChk, h0]
    simp [or2, hc, e1]
  rw [e] at h1
  simp only [List.length_cons, List.length_nil, Nat.zero_add] at h1
  refine Pc_of (Gf_enter (C := Cf G) Tryz.func222 rfl ok222 (Nat.le_of_ble_eq_true rfl) ?_)
  simp only [Tryz.f222, Option.getD_some]
  refine wC1 (wa @Int.natCast_one @Int.one_ne_zero) (wa h1 (wa h2 trivial)) ?_
  simp only [one1, frz_t, mapF, frz_l, frz_s, Option.map_some, List.append_nil]
theorem rem_empty {a : List Int} {d : Int} (hd : 0 < d) : ((trimL [nv a % d]).length : Int) = 0 ↔ nv a % d = 0 := by
  by_cases h : nv a % d = 0
  · simp [h, trimL]
  · simp [h, trimL]
theorem pc161 (G : Nat → Option (List AV)) (a : List Int) (hc : natChk a = 0) (ha : Limbs a) :
    Pc (Cf G) 161 [.psl (u32s a) a.length] (.tup [.psl (u32s (trimL (dmQ a 10))) (trimL (dmQ a 10)).length, .sc (.bool (decide (nv a % 10 = 0)))]) := by
  have h1 := pc159 G 10 (by omega)
  have h2 := pc222 G a 10 hc ha (by omega)
  have e : trimL [(10 : Int) % 4294967296, 10 / 4294967296] = [10] := by decide
  rw [e] at h1
  have hd : decide (((trimL [nv a % 10]).length : Int) = 0) = decide (nv a % 10 = 0) := by
    rw [decide_eq_decide]
    exact rem_empty (by omega)
  simp only [List.length_cons, List.length_nil, Nat.zero_add] at h1
  refine Pc_of (Gf_enter (C := Cf G) Tryz.func161 rfl ok161 (Nat.le_of_ble_eq_true rfl) ?_)
  simp only [Tryz.f161, Option.getD_some]
  refine wC1 hd (wa h1 (wa h2 trivial)) ?_
  simp only [one1, frz_t, mapF, frz_l, frz_s, Option.map_some, List.append_nil]
end Go.Proofs.Bv
namespace Go.Proofs.Bv
open Go
def rowM (x : Int) : List Int → List Int → Int → List Int
  | _, [], _ => []
  | [], _ :: os, c => c :: os
  | y :: ys, o :: os, c => (x * y + o + c) % 4294967296 :: rowM x ys os ((x * y + o + c) / 4294967296)
def mulF (b : List Int) : List Int → List Int → List Int
  | [], out => out
  | _ :: _, [] => []
  | x :: xs, o :: os => match rowM x b (o :: os) 0 with
    | [] => []
    | r :: rs => r :: mulF b xs rs
theorem mul_le {x y : Int} (hx : 0 ≤ x ∧ x ≤ 4294967295) (hy : 0 ≤ y ∧ y ≤ 4294967295) : 0 ≤ x * y ∧ x * y ≤ 18446744065119617025 := by
  refine ⟨Int.mul_nonneg hx.1 hy.1, ?_⟩
  have h1 := Int.mul_le_mul_of_nonneg_left hy.2 hx.1
  have h2 := Int.mul_le_mul_of_nonneg_right hx.2 (show (0 : Int) ≤ 4294967295 by omega)
  omega
theorem row_len (x : Int) : (b o : List Int) → (c : Int) → (rowM x b o c).length = o.length
  | b, [], c => by cases b <;> rfl
  | [], o :: os, c => rfl
  | y :: ys, o :: os, c => by simp only [rowM, List.length_cons, row_len x ys os]
theorem row_nv {x : Int} (hx : 0 ≤ x ∧ x ≤ 4294967295) : (b o : List Int) → (c : Int) → Limbs b → Limbs o → 0 ≤ c ∧ c ≤ 4294967295 → o[b.length]? = some 0 → Limbs (rowM x b o c) ∧ nv (rowM x b o c) = nv o + x * nv b + c
  | b, [], c => fun _ _ _ h => by simp at h
  | [], o :: os, c => fun _ ho hc h => by
    simp only [List.length_nil, List.getElem?_cons_zero, Option.some.injEq] at h
    subst h
    refine ⟨Limbs.cons hc ho.tail, ?_⟩
    simp only [rowM, nv]
    omega
  | y :: ys, o :: os, c => fun hb ho hc h => by
    have hm := mul_le hx hb.head
    have h1 := ho.head
    have hq : 0 ≤ (x * y + o + c) / 4294967296 ∧ (x * y + o + c) / 4294967296 ≤ 4294967295 := by omega
    obtain ⟨e1, e2⟩ := row_nv hx ys os ((x * y + o + c) / 4294967296) hb.tail ho.tail hq (by simpa using h)
    simp only [rowM]
    refine ⟨Limbs.cons (by omega) e1, ?_⟩
    simp only [nv, e2]
    have e3 : x * (y + 4294967296 * nv ys) = x * y + 4294967296 * (x * nv ys) := by
      rw [Int.mul_add]
      congr 1
      rw [← Int.mul_assoc, Int.mul_comm x, Int.mul_assoc]
    rw [e3]
    generalize x * nv ys = q
    generalize x * y = p at *
    omega
theorem row_rest (x : Int) : (b o : List Int) → (c : Int) → (j : Nat) → b.length < j → (rowM x b o c)[j]? = o[j]?
  | b, [], c, j, h => by cases b <;> rfl
  | [], o :: os, c, j, h => by
    obtain ⟨j, rfl⟩ : ∃ k, j = k + 1 := ⟨j - 1, by simp at h; omega⟩
    rfl
  | y :: ys, o :: os, c, j, h => by
    obtain ⟨j, rfl⟩ : ∃ k, j = k + 1 := ⟨j - 1, by simp at h; omega⟩
    simp only [rowM, List.getElem?_cons_succ]
    exact row_rest x ys os _ j (by simpa using h)
theorem mulF_nv {b : List Int} (hb : Limbs b) : (a out : List Int) → Limbs a → Limbs out → a.length + b.length ≤ out.length → (∀ j, b.length ≤ j → j < out.length → out[j]? = some 0) → Limbs (mulF b a out) ∧ nv (mulF b a out) = nv out + nv a * nv b
  | [], out => fun _ ho _ _ => ⟨ho, by simp [mulF, nv]⟩
  | x :: xs, [] => fun _ _ h _ => by simp at h
  | x :: xs, o :: os => fun ha ho hl hz => by
    have hz0 := hz b.length (Nat.le_refl _) (by simp only [List.length_cons] at hl ⊢; omega)
    obtain ⟨r1, r2⟩ := row_nv ha.head b (o :: os) 0 hb ho (by omega) hz0
    have r3 := row_len x b (o :: os) 0
    simp only [mulF]
    split
    · rename_i h
      rw [h] at r3
      simp at r3
    · rename_i r rs h
      rw [h] at r1 r2 r3
      have hrs : rs.length = os.length := by simpa using r3
      obtain ⟨e1, e2⟩ := mulF_nv hb xs rs ha.tail r1.tail (by simp only [List.length_cons] at hl; omega) (fun j hj hjl => by
        have := row_rest x b (o :: os) 0 (j + 1) (by omega)
        rw [h] at this
        simp only [List.getElem?_cons_succ] at this
        rw [this]
        have := hz (j + 1) (by omega) (by simp only [List.length_cons]; omega)
        simpa using this)
      refine ⟨Limbs.cons r1.head e1, ?_⟩
      simp only [nv] at r2 ⊢
      rw [e2]
      have e3 : (x + 4294967296 * nv xs) * nv b = x * nv b + 4294967296 * (nv xs * nv b) := by
        rw [Int.add_mul, Int.mul_assoc]
      rw [e3]
      generalize nv xs * nv b = q
      generalize x * nv b = p at *
      omega
theorem nv_zeros : (n : Nat) → nv (List.replicate n 0) = 0
  | 0 => rfl
  | n + 1 => by simp only [List.replicate_succ, nv, nv_zeros n]; rfl
theorem limbs_zeros (n : Nat) : Limbs (List.replicate n 0) := fun c hc => by rw [List.eq_of_mem_replicate hc]; omega
def mulL (a b : List Int) : List Int := trimL (mulF b a (List.replicate (a.length + b.length) 0))
theorem mulF_len (b : List Int) : (a out : List Int) → (mulF b a out).length = out.length
  | [], out => rfl
  | x :: xs, [] => rfl
  | x :: xs, o :: os => by
    have h := row_len x b (o :: os) 0
    simp only [mulF]
    split
    · rename_i e; rw [e] at h; simp at h
    · rename_i r rs e
      rw [e] at h
      simp only [List.length_cons, mulF_len b xs rs] at h ⊢
      exact h
theorem mulL_nv {a b : List Int} (ha : Limbs a) (hb : Limbs b) : Limbs (mulL a b) ∧ nv (mulL a b) = nv a * nv b ∧ TopOk (mulL a b) := by
  obtain ⟨e1, e2⟩ := mulF_nv hb a (List.replicate (a.length + b.length) 0) ha (limbs_zeros _) (by simp) (fun j _ h => by rw [List.getElem?_replicate, if_pos (by simpa using h)])
  refine ⟨trim_limbs e1, ?_, trim_top _⟩
  unfold mulL
  rw [nv_trim, e2, nv_zeros]
  omega
theorem st_at (p r : List Int) (o v : Int) : (u32s (p ++ o :: r)).take (p.length * 1) ++ [AV.sc (.int .u32 v)] ++ (u32s (p ++ o :: r)).drop (p.length * 1 + 1) = u32s (p ++ v :: r) := by
  have hl : (u32s p).length = p.length := u32s_len p
  have e : u32s (p ++ o :: r) = u32s p ++ .sc (.int .u32 o) :: u32s r := by simp [u32s]
  rw [e, Nat.mul_one, List.take_append_of_le_length (by omega), List.take_of_length_le (by omega), List.drop_append, List.drop_of_length_le (by omega), hl]
  simp [u32s]
theorem ok180 : codeOk 68 (Tryz.f180.body.getD .skip) = true := by kernel_rfl
set_option maxHeartbeats 4000000 in
set_option maxRecDepth 100000 in
theorem pc180 (G : Nat → Option (List AV)) (a b : List Int) (hl : (a.length + b.length) * 4 ≤ 140737488355328) (ha : Limbs a) (hb : Limbs b) :
    Pc (Cf G) 180 [.psl (u32s a) a.length, .psl (u32s b) b.length] (.psl (u32s (mulL a b)) (mulL a b).length) := by
  have w0 : IntKind.i64.wrap ((a.length : Int) + (b.length : Int)) = ((a.length + b.length : Nat) : Int) := by rw [i64 (by omega) (by omega)]; omega
  have h2 : a.length + b.length ≤ 140737488355328 := by omega
  have hc := pc183 G (mulF b a (List.replicate (a.length + b.length) 0)) (by rw [mulF_len]; simp; omega)
  rw [mulF_len, List.length_replicate] at hc
  refine Pc_of (Gf_enter (C := Cf G) Tryz.func180 rfl ok180 (Nat.le_of_ble_eq_true rfl) ?_)
  simp only [Tryz.f180, Option.getD_some]
  refine wB1 (wa w0 (wa hl (wa h2 @rep_one))) ?_
  refine Gc_loop_inv (fun m st => ∃ a1 a2 pre cur, a = a1 ++ a2 ∧ m = a2.length ∧ pre.length = a1.length ∧ cur.length + pre.length = a.length + b.length ∧ Limbs cur ∧ pre ++ mulF b a2 cur = mulF b a (List.replicate (a.length + b.length) 0) ∧
    (∀ j, b.length ≤ j → j < cur.length → cur[j]? = some 0) ∧
    st.T 0 = .psl (u32s a) a.length ∧ st.T 1 = .psl (u32s b) b.length ∧ st.T 5 = .osl 0 0 (a.length + b.length) ∧ st.T 18 = .psl (u32s a) a.length ∧ st.T 19 = .sc (.int .i64 a.length) ∧ st.T 20 = .sc (.int .i64 a1.length) ∧
    st.h 0 = some (.cells (u32s (pre ++ cur)) 1 false)) ?_ a.length _ ⟨[], a, [], _, rfl, rfl, rfl, ?_, limbs_zeros _, rfl, ?_, ?_⟩
  · rintro m ⟨T, h, n⟩ ⟨a1, a2, pre, cur, hab, rfl, hp, hcl, hcu, hfin, hz, t0, t1, t5, t18, t19, t20, q0⟩
    simp only at t0 t1 t5 t18 t19 t20 q0
    cases a2 with
    | nil =>
      have hge : ¬ (a1.length : Int) < (a.length : Int) := by rw [hab]; simp
      have e : pre ++ cur = mulF b a (List.replicate (a.length + b.length) 0) := by simpa [mulF] using hfin
      rw [e] at q0
      have hlen : (u32s (mulF b a (List.replicate (a.length + b.length) 0))).length = a.length + b.length := by rw [u32s_len, mulF_len]; simp
      refine wF1 (wa t0 (wa t1 (wa t5 (wa t18 (wa t19 (wa t20 (wa q0 (wa hge (wa hlen @Nat.mul_one))))))))) (wa hc trivial) ?_
      simp only [one1, frz_l, Option.map_some]
      rfl
    | cons x a2 =>
      have hlt : (a1.length : Int) < (a.length : Int) := by rw [hab]; simp; omega
      have hltn : a1.length < a.length := by omega
      have hx := u32s_at (l := a) (k := a1.length) (x := x) (by rw [hab]; simp)
      have hxl := ha x (by rw [hab]; simp)
      refine wB1 (wa t0 (wa t1 (wa t5 (wa t18 (wa t19 (wa t20 (wa q0 (wa hlt (wa hltn hx))))))))) ?_
      have hcu0 : cur ≠ [] := by
        intro e
        rw [e] at hcl
        simp at hcl
        omega
      have hzb := hz b.length (Nat.le_refl _) (by omega)
      obtain ⟨hr1, hr2⟩ := row_nv hxl b cur 0 hb hcu (by omega) hzb
      have hr3 := row_len x b cur 0
      refine Gc_loop_inv (fun m st => ∃ b1 b2 q cur2 c, b = b1 ++ b2 ∧ m = b2.length ∧ q.length = b1.length ∧ cur2.length + q.length = cur.length ∧ Limbs cur2 ∧ q ++ rowM x b2 cur2 c = rowM x b cur 0 ∧ 0 ≤ c ∧ c ≤ 4294967295 ∧
        st.T 0 = .psl (u32s a) a.length ∧ st.T 1 = .psl (u32s b) b.length ∧ st.T 5 = .osl 0 0 (a.length + b.length) ∧ st.T 18 = .psl (u32s a) a.length ∧ st.T 19 = .sc (.int .i64 a.length) ∧ st.T 20 = .sc (.int .i64 a1.length) ∧
        st.T 6 = .sc (.int .i64 a1.length) ∧ st.T 7 = .sc (.int .u32 x) ∧ st.T 8 = .sc (.int .u64 c) ∧ st.T 25 = .psl (u32s b) b.length ∧ st.T 26 = .sc (.int .i64 b.length) ∧ st.T 27 = .sc (.int .i64 b1.length) ∧
        st.h 0 = some (.cells (u32s ((pre ++ q) ++ cur2)) 1 false)) ?_ b.length _ ⟨[], b, [], cur, 0, rfl, rfl, rfl, by simp, hcu, rfl, by omega, by omega, ?_⟩
      · rintro m ⟨T, h, n⟩ ⟨b1, b2, q, cur2, c, hbb, rfl, hq, hcl2, hcu2, hrow, hc0, hc1, t0, t1, t5, t18, t19, t20, t6, t7, t8, t25, t26, t27, q0⟩
        simp only at t0 t1 t5 t18 t19 t20 t6 t7 t8 t25 t26 t27 q0
        have hpq : (pre ++ q).length = a1.length + b1.length := by rw [List.length_append, hp, hq]
        have hblen : b.length = b1.length + b2.length := by rw [hbb, List.length_append]
        cases cur2 with
        | nil => simp at hcl2; omega
        | cons o os =>
          have w1 : IntKind.i64.wrap ((a1.length : Int) + (b1.length : Int)) = (((pre ++ q).length : Nat) : Int) := by rw [i64 (by omega) (by omega), hpq]; omega
          have hin : (pre ++ q).length < a.length + b.length := by simp only [List.length_cons] at hcl2; omega
          have hin2 : (pre ++ q).length * 1 + 1 ≤ (u32s ((pre ++ q) ++ o :: os)).length := by rw [u32s_len]; simp; omega
          cases b2 with
          | nil =>
            have hge : ¬ (b1.length : Int) < (b.length : Int) := by rw [hbb]; simp
            have hbe : b1 = b := by rw [hbb]; simp
            have wc : IntKind.u32.wrap c = c := IntWalk.u32_in _ (by omega)
            have w2 : IntKind.i64.wrap ((a1.length : Int) + (b.length : Int)) = (((pre ++ q).length : Nat) : Int) := by rw [← hbe]; exact w1
            have w3 : IntKind.i64.wrap ((a1.length : Int) + 1) = (a1.length : Int) + 1 := i64 (by omega) (by omega)
            have hst := st_at (pre ++ q) os o c
            refine wB1 (wa t0 (wa t1 (wa t5 (wa t18 (wa t19 (wa t20 (wa t6 (wa t7 (wa t8 (wa t25 (wa t26 (wa t27 (wa q0 (wa hge (wa wc (wa w2 (wa w3 (wa hin (wa hin2 hst))))))))))))))))))) ?_
            have e1 : q ++ c :: os = rowM x b cur 0 := by simpa [rowM] using hrow
            cases hcur : cur with
            | nil => exact absurd hcur hcu0
            | cons o0 os0 =>
              rw [hcur] at e1 hr1 hr3 hfin hcl hz
              cases hrr : rowM x b (o0 :: os0) 0 with
              | nil => rw [hrr] at hr3; simp at hr3
              | cons r rs =>
                rw [hrr] at e1 hr1 hr3
                have hrs : rs.length = os0.length := by simpa using hr3
                refine ⟨a2.length, by simp, a1 ++ [x], a2, pre ++ [r], rs, by simp [hab], rfl, by simp [hp], ?_, hr1.tail, ?_, ?_, ?_, ?_, ?_, ?_, ?_, ?_, ?_⟩
                · simp only [List.length_append, List.length_cons, List.length_nil] at hcl ⊢; omega
                · rw [← hfin]
                  simp only [mulF, hrr, List.append_assoc, List.singleton_append]
                · intro j hj hjl
                  have h1 := row_rest x b (o0 :: os0) 0 (j + 1) (by omega)
                  rw [hrr] at h1
                  simp only [List.getElem?_cons_succ] at h1
                  rw [h1]
                  have h2 := hz (j + 1) (by omega) (by simp only [List.length_cons]; omega)
                  simpa using h2
                all_goals simp [upd_ap, t0, t1, t5, t18, t19, ← e1]
          | cons y b2 =>
            have hlt2 : (b1.length : Int) < (b.length : Int) := by rw [hbb]; simp; omega
            have hltn2 : b1.length < b.length := by omega
            have hy := u32s_at (l := b) (k := b1.length) (x := y) (by rw [hbb]; simp)
            have hyl := hb y (by rw [hbb]; simp)
            have hm := mul_le hxl hyl
            have ho := hcu2.head
            have hoat := u32s_at (l := (pre ++ q) ++ o :: os) (k := (pre ++ q).length) (x := o) (by simp)
            have cx : IntKind.u64.wrap x = x := IntWalk.u64_in _ (by omega)
            have cy : IntKind.u64.wrap y = y := IntWalk.u64_in _ (by omega)
            have co : IntKind.u64.wrap o = o := IntWalk.u64_in _ (by omega)
            have m1 : IntKind.u64.wrap (x * y) = x * y := IntWalk.u64_in _ (by omega)
            have m2 : IntKind.u64.wrap (x * y + o) = x * y + o := IntWalk.u64_in _ (by omega)
            have m3 : IntKind.u64.wrap (x * y + o + c) = x * y + o + c := IntWalk.u64_in _ (by omega)
            have m4 : IntKind.u32.wrap (x * y + o + c) = (x * y + o + c) % 4294967296 := IntKind.wrap_u32 _
            have w4 : IntKind.i64.wrap ((b1.length : Int) + 1) = (b1.length : Int) + 1 := i64 (by omega) (by omega)
            have hst := st_at (pre ++ q) os o ((x * y + o + c) % 4294967296)
            refine wB1 (wa t0 (wa t1 (wa t5 (wa t18 (wa t19 (wa t20 (wa t6 (wa t7 (wa t8 (wa t25 (wa t26 (wa t27 (wa q0 (wa hlt2 (wa hltn2 (wa w1 (wa w4 (wa hin (wa hin2 (wa hst (wa hy (wa hoat (wa cx (wa cy (wa co (wa m1 (wa m2 (wa m3 m4)))))))))))))))))))))))))))) ?_
            refine ⟨b2.length, by simp, b1 ++ [y], b2, q ++ [(x * y + o + c) % 4294967296], os, (x * y + o + c) / 4294967296, by simp [hbb], rfl, by simp [hq], ?_, hcu2.tail, ?_, by omega, by omega, ?_⟩
            · simp only [List.length_append, List.length_cons, List.length_nil] at hcl2 ⊢; omega
            · rw [← hrow]
              simp [rowM]
            · simp [upd_ap, t0, t1, t5, t18, t19, t20, t6, t7, t25, t26]
      · simp [upd_ap, t0, t1, t5, t18, t19, t20, q0]
  · simp
  · intro j _ h
    rw [List.getElem?_replicate, if_pos (by simpa using h)]
  · simp [upd_ap, argsT]
end Go.Proofs.Bv
namespace Go.Proofs.Bv
open Go
def addF : List Int → List Int → Int → List Int
  | [], _, c => [c]
  | x :: xs, bs, c => (x + bs.headD 0 + c) % 4294967296 :: addF xs bs.tail ((x + bs.headD 0 + c) / 4294967296)
theorem headD_rng {b : List Int} (hb : Limbs b) : 0 ≤ b.headD 0 ∧ b.headD 0 ≤ 4294967295 := by
  cases b with
  | nil => simp
  | cons y b => exact hb.head
theorem nv_head (b : List Int) : nv b = b.headD 0 + 4294967296 * nv b.tail := by
  cases b with
  | nil => rfl
  | cons y b => rfl
theorem Limbs.tl {b : List Int} (hb : Limbs b) : Limbs b.tail := by
  cases b with
  | nil => exact hb
  | cons y b => exact Limbs.tail hb
theorem addF_nv : (a b : List Int) → (c : Int) → Limbs a → Limbs b → b.length ≤ a.length → 0 ≤ c ∧ c ≤ 1 → Limbs (addF a b c) ∧ nv (addF a b c) = nv a + nv b + c
  | [], b, c => fun _ _ hl hc => by
    obtain rfl : b = [] := List.eq_nil_of_length_eq_zero (by simpa using hl)
    refine ⟨Limbs.cons (by omega) (fun _ h => by simp at h), ?_⟩
    simp only [addF, nv]
    omega
  | x :: xs, b, c => fun ha hb hl hc => by
    have h1 := ha.head
    have h2 := headD_rng hb
    obtain ⟨e1, e2⟩ := addF_nv xs b.tail ((x + b.headD 0 + c) / 4294967296) ha.tail hb.tl (by rw [List.length_tail]; simp only [List.length_cons] at hl; omega) (by omega)
    refine ⟨Limbs.cons (by omega) e1, ?_⟩
    have e3 := nv_head b
    simp only [addF, nv, e2]
    generalize nv b.tail = q at *
    omega
theorem addF_len : (a b : List Int) → (c : Int) → (addF a b c).length = a.length + 1
  | [], _, _ => rfl
  | x :: xs, b, c => by simp only [addF, List.length_cons, addF_len xs]
def addL (a b : List Int) : List Int := if a.length < b.length then trimL (addF b a 0) else trimL (addF a b 0)
theorem addL_nv {a b : List Int} (ha : Limbs a) (hb : Limbs b) : Limbs (addL a b) ∧ nv (addL a b) = nv a + nv b ∧ TopOk (addL a b) := by
  unfold addL
  split
  · rename_i h
    obtain ⟨e1, e2⟩ := addF_nv b a 0 hb ha (by omega) (by omega)
    exact ⟨trim_limbs e1, by rw [nv_trim, e2]; omega, trim_top _⟩
  · rename_i h
    obtain ⟨e1, e2⟩ := addF_nv a b 0 ha hb (by omega) (by omega)
    exact ⟨trim_limbs e1, by rw [nv_trim, e2]; omega, trim_top _⟩
theorem ok237 : codeOk 22 (Tryz.f237.body.getD .skip) = true := by kernel_rfl
theorem ok181 : codeOk 56 (Tryz.f181.body.getD .skip) = true := by kernel_rfl
theorem pc237 (G : Nat → Option (List AV)) (x y c : Int) (hx : 0 ≤ x ∧ x ≤ 4294967295) (hy : 0 ≤ y ∧ y ≤ 4294967295) (hc : 0 ≤ c ∧ c ≤ 1) :
    Pc (Cf G) 237 [.sc (.int .u32 x), .sc (.int .u32 y), .sc (.int .u32 c)] (.tup [.sc (.int .u32 ((x + y + c) % 4294967296)), .sc (.int .u32 ((x + y + c) / 4294967296))]) := by
  have cx : IntKind.u64.wrap x = x := IntWalk.u64_in _ (by omega)
  have cy : IntKind.u64.wrap y = y := IntWalk.u64_in _ (by omega)
  have cc : IntKind.u64.wrap c = c := IntWalk.u64_in _ (by omega)
  have m1 : IntKind.u64.wrap (x + y) = x + y := IntWalk.u64_in _ (by omega)
  have m2 : IntKind.u64.wrap (x + y + c) = x + y + c := IntWalk.u64_in _ (by omega)
  have m3 : IntKind.u32.wrap (x + y + c) = (x + y + c) % 4294967296 := IntKind.wrap_u32 _
  have m4 : IntKind.u32.wrap ((x + y + c) / 4294967296) = (x + y + c) / 4294967296 := IntWalk.u32_in _ (by omega)
  refine Pc_of (Gf_enter (C := Cf G) Tryz.func237 rfl ok237 (Nat.le_of_ble_eq_true rfl) ?_)
  simp only [Tryz.f237, Option.getD_some]
  refine wB1 (wa cx (wa cy (wa cc (wa m1 (wa m2 (wa m3 m4)))))) ?_
  simp only [one1, frz_t, mapF, frz_s, Option.map_some, List.append_nil]
theorem bs1l (a : Int) : fillA (fun i => some (i * 1, 1)) (rep 1 [AV.sc (.int .u32 0)]) [(0, .sc (.int .u32 a))] = some [.sc (.int .u32 a)] := rfl
theorem snoc_u (d : List Int) (x : Int) : u32s d ++ [AV.sc (.int .u32 x)] = u32s (d ++ [x]) := by simp [u32s]
theorem cutu (d : List Int) : cut (u32s d) 0 (d.length * 1) = u32s d := by rw [u32s_cut, List.take_length]
set_option maxHeartbeats 4000000 in
set_option maxRecDepth 100000 in
theorem pc181 (G : Nat → Option (List AV)) (a b : List Int) (hl : (a.length + b.length + 1) * 4 ≤ 140737488355328) (ha : Limbs a) (hb : Limbs b) :
    Pc (Cf G) 181 [.psl (u32s a) a.length, .psl (u32s b) b.length] (.psl (u32s (addL a b)) (addL a b).length) := by
  obtain ⟨A, B, hAB, hA, hB, hle, hsum⟩ : ∃ A B, (if a.length < b.length then A = b ∧ B = a else A = a ∧ B = b) ∧ Limbs A ∧ Limbs B ∧ B.length ≤ A.length ∧ (addL a b = trimL (addF A B 0)) := by
    by_cases h : a.length < b.length
    · exact ⟨b, a, by rw [if_pos h]; exact ⟨rfl, rfl⟩, hb, ha, by omega, by unfold addL; rw [if_pos h]⟩
    · exact ⟨a, b, by rw [if_neg h]; exact ⟨rfl, rfl⟩, ha, hb, by omega, by unfold addL; rw [if_neg h]⟩
  have hAl : (A.length + 1) * 4 ≤ 140737488355328 := by
    split at hAB <;> (obtain ⟨rfl, rfl⟩ := hAB; omega)
  have hc := pc183 G (addF A B 0) (by rw [addF_len]; omega)
  rw [addF_len] at hc
  rw [hsum]
  have w0 : IntKind.i64.wrap ((A.length : Int) + 1) = ((A.length + 1 : Nat) : Int) := by rw [i64 (by omega) (by omega)]; omega
  have h2 : A.length + 1 ≤ 140737488355328 := by omega
  refine Pc_of (Gf_enter (C := Cf G) Tryz.func181 rfl ok181 (Nat.le_of_ble_eq_true rfl) ?_)
  simp only [Tryz.f181, Option.getD_some]
  by_cases h : a.length < b.length
  all_goals
    first | (have h' : (a.length : Int) < (b.length : Int) := by omega) | (have h' : ¬ (a.length : Int) < (b.length : Int) := by omega)
    first | rw [if_pos h] at hAB | rw [if_neg h] at hAB
    obtain ⟨rfl, rfl⟩ := hAB
    refine wB1 (wa h' (wa w0 (wa hAl (wa h2 @Nat.zero_le)))) ?_
    refine Gc_loop_inv (fun m st => ∃ a1 a2 b2 out c p, A = a1 ++ a2 ∧ m = a2.length ∧ b2 = B.drop a1.length ∧ out.length = a1.length ∧ out ++ addF a2 b2 c = addF A B 0 ∧ 0 ≤ c ∧ c ≤ 1 ∧
      st.T 0 = .psl (u32s A) A.length ∧ st.T 1 = .psl (u32s B) B.length ∧ st.T 5 = .osl p 0 out.length ∧ st.T 6 = .sc (.int .u32 c) ∧ st.T 23 = .psl (u32s A) A.length ∧ st.T 24 = .sc (.int .i64 A.length) ∧ st.T 25 = .sc (.int .i64 a1.length) ∧
      p < st.n ∧ st.h p = some (.cells (u32s out) 1 false)) ?_ A.length _ ⟨[], A, B, [], 0, 0, rfl, rfl, rfl, rfl, rfl, by omega, by omega, ?_⟩
    · rintro m ⟨T, h, n⟩ ⟨a1, a2, b2, out, c, p, hAA, rfl, rfl, hol, hfin, hc0, hc1, t0, t1, t5, t6, t23, t24, t25, hp, q0⟩
      simp only at t0 t1 t5 t6 t23 t24 t25 hp q0
      have hpn : ¬ p = n := by omega
      have hpn1 : ¬ p = n + 1 := by omega
      have hnp : ¬ n = p := by omega
      have hAlen : A.length = a1.length + a2.length := by rw [hAA, List.length_append]
      have g1 : (out.length + 1) * 4 ≤ 140737488355328 := by omega
      have g2 : out.length + 1 ≤ 140737488355328 := by omega
      have g3 : out.length * 1 ≤ (u32s out).length := by rw [u32s_len]; omega
      cases a2 with
      | nil =>
        have hge : ¬ (a1.length : Int) < (A.length : Int) := by rw [hAA]; simp
        have e : out ++ [c] = addF A B 0 := hfin
        have e2 : out.length + 1 = A.length + 1 := by simp only [List.length_nil] at hAlen; omega
        have e3 : ((u32s (out ++ [c])).length = (out.length + 1) * 1) = True := by rw [u32s_len]; simp
        rw [← e, ← e2] at hc
        rw [← e]
        refine wF1 (wa t0 (wa t1 (wa t5 (wa t6 (wa t23 (wa t24 (wa t25 (wa q0 (wa hge (wa hpn (wa hpn1 (wa hnp (wa g1 (wa g2 (wa g3 (wa @cutu (wa @snoc_u e3))))))))))))))))) (wa hc trivial) ?_
        simp only [one1, frz_l, Option.map_some]
      | cons x a2 =>
        have hlt : (a1.length : Int) < (A.length : Int) := by rw [hAA]; simp; omega
        have hltn : a1.length < A.length := by omega
        have hx := u32s_at (l := A) (k := a1.length) (x := x) (by rw [hAA]; simp)
        have hxl := hA x (by rw [hAA]; simp)
        have w4 : IntKind.i64.wrap ((a1.length : Int) + 1) = (a1.length : Int) + 1 := i64 (by omega) (by omega)
        have hyl := headD_rng (b := B.drop a1.length) (fun y hy => hB y (List.mem_of_mem_drop hy))
        have hadd := pc237 G x ((B.drop a1.length).headD 0) c hxl hyl ⟨hc0, hc1⟩
        by_cases hlb : a1.length < B.length
        · have hlbi : (a1.length : Int) < (B.length : Int) := by omega
          have hy := u32s_at (l := B) (k := a1.length) (x := (B.drop a1.length).headD 0) (by rw [List.headD_eq_head?_getD, List.head?_drop, List.getElem?_eq_getElem hlb]; rfl)
          refine wC1 (wa t0 (wa t1 (wa t5 (wa t6 (wa t23 (wa t24 (wa t25 (wa q0 (wa hlt (wa hltn (wa hx (wa hlbi (wa hlb (wa hy (wa w4 (wa hpn (wa hpn1 (wa hnp (wa g1 (wa g2 (wa g3 (wa @cutu @snoc_u)))))))))))))))))))))) (wa hadd trivial) ?_
          refine ⟨a2.length, by simp, a1 ++ [x], a2, (B.drop a1.length).tail, out ++ [(x + (B.drop a1.length).headD 0 + c) % 4294967296], (x + (B.drop a1.length).headD 0 + c) / 4294967296, n + 1, by simp [hAA], rfl, by rw [List.tail_drop]; simp, by simp [hol], ?_, by omega, by omega, ?_⟩
          · rw [← hfin]
            simp only [addF, List.append_assoc, List.singleton_append]
          · simp [upd_ap, t0, t1, t23, t24]
        · have hlbi : ¬ (a1.length : Int) < (B.length : Int) := by omega
          have hy0 : (B.drop a1.length).headD 0 = 0 := by rw [List.drop_of_length_le (by omega)]; rfl
          rw [hy0] at hadd
          have hbn : B[a1.length]? = none := List.getElem?_eq_none (by omega)
          refine wC1 (wa t0 (wa t1 (wa t5 (wa t6 (wa t23 (wa t24 (wa t25 (wa q0 (wa hlt (wa hltn (wa hx (wa hlbi (wa w4 (wa hpn (wa hpn1 (wa hnp (wa g1 (wa g2 (wa g3 (wa @cutu @snoc_u)))))))))))))))))))) (wa hadd trivial) ?_
          refine ⟨a2.length, by simp, a1 ++ [x], a2, (B.drop a1.length).tail, out ++ [(x + (B.drop a1.length).headD 0 + c) % 4294967296], (x + (B.drop a1.length).headD 0 + c) / 4294967296, n + 1, by simp [hAA], rfl, by rw [List.tail_drop]; simp, by simp [hol], ?_, by omega, by omega, ?_⟩
          · rw [← hfin]
            simp only [addF, List.append_assoc, List.singleton_append]
          · simp [upd_ap, t0, t1, t23, t24, hbn]
    · simp [upd_ap, argsT, u32s]
end Go.Proofs.Bv
namespace Go.Proofs.Bv
open Go
def lim (n : Nat) : List Int := if h : n = 0 then [] else ((n % 4294967296 : Nat) : Int) :: lim (n / 4294967296)
termination_by n
decreasing_by omega
def Canon (l : List Int) : Prop := Limbs l ∧ TopOk l
theorem lim_zero : lim 0 = [] := by rw [lim]; simp
theorem lim_pos {n : Nat} (h : 0 < n) : lim n = ((n % 4294967296 : Nat) : Int) :: lim (n / 4294967296) := by
  rw [lim]
  rw [dif_neg (by omega)]
theorem lim_nil {n : Nat} : lim n = [] ↔ n = 0 := by
  constructor
  · intro h
    rcases Nat.eq_zero_or_pos n with h0 | h0
    · exact h0
    · rw [lim_pos h0] at h; cases h
  · rintro rfl; exact lim_zero
theorem nv_lim (n : Nat) : nv (lim n) = n := by
  induction n using Nat.strongRecOn with
  | ind n ih =>
    rcases Nat.eq_zero_or_pos n with rfl | h0
    · rw [lim_zero]; rfl
    · rw [lim_pos h0, nv, ih _ (by omega)]
      omega
theorem lim_limbs (n : Nat) : Limbs (lim n) := by
  induction n using Nat.strongRecOn with
  | ind n ih =>
    rcases Nat.eq_zero_or_pos n with rfl | h0
    · rw [lim_zero]; exact fun _ h => by simp at h
    · rw [lim_pos h0]
      exact Limbs.cons (by omega) (ih _ (by omega))
theorem lim_top (n : Nat) : TopOk (lim n) := by
  induction n using Nat.strongRecOn with
  | ind n ih =>
    rcases Nat.eq_zero_or_pos n with rfl | h0
    · rw [lim_zero]; exact fun _ h => by simp at h
    · rw [lim_pos h0]
      intro x hx
      cases hq : lim (n / 4294967296) with
      | nil =>
        rw [hq] at hx
        have := lim_nil.1 hq
        simp at hx
        omega
      | cons y r =>
        have := ih (n / 4294967296) (by omega)
        rw [hq] at this hx
        exact this x (by simpa [List.getLast?_cons_cons] using hx)
theorem lim_canon (n : Nat) : Canon (lim n) := ⟨lim_limbs n, lim_top n⟩
theorem canon_uniq : {a b : List Int} → Canon a → Canon b → nv a = nv b → a = b
  | [], b, _, hb, h => ((nv_zero_iff hb.1 hb.2).1 (by rw [← h]; rfl)).symm
  | x :: a, [], ha, _, h => (nv_zero_iff ha.1 ha.2).1 (by rw [h]; rfl)
  | x :: a, y :: b, ha, hb, h => by
    have h1 := ha.1.head
    have h2 := hb.1.head
    simp only [nv] at h
    have ta : TopOk a := by
      cases a with
      | nil => exact fun _ h => by simp at h
      | cons z a => exact ha.2.tail
    have tb : TopOk b := by
      cases b with
      | nil => exact fun _ h => by simp at h
      | cons z b => exact hb.2.tail
    have e : x = y := by omega
    subst e
    rw [canon_uniq ⟨ha.1.tail, ta⟩ ⟨hb.1.tail, tb⟩ (by omega)]
theorem canon_lim {a : List Int} (h : Canon a) {n : Nat} (hn : nv a = n) : a = lim n := canon_uniq h (lim_canon n) (by rw [hn, nv_lim])
theorem mul_lim (a b : Nat) : mulL (lim a) (lim b) = lim (a * b) := by
  obtain ⟨h1, h2, h3⟩ := mulL_nv (lim_limbs a) (lim_limbs b)
  exact canon_lim ⟨h1, h3⟩ (by rw [h2, nv_lim, nv_lim]; simp)
theorem add_lim (a b : Nat) : addL (lim a) (lim b) = lim (a + b) := by
  obtain ⟨h1, h2, h3⟩ := addL_nv (lim_limbs a) (lim_limbs b)
  exact canon_lim ⟨h1, h3⟩ (by rw [h2, nv_lim, nv_lim]; simp)
theorem trim_lim {l : List Int} (hl : Limbs l) {n : Nat} (hn : nv l = n) : trimL l = lim n := canon_lim ⟨trim_limbs hl, trim_top l⟩ (by rw [nv_trim, hn])
theorem trim_lim1 (n : Nat) (h : n ≤ 4294967295) : trimL [(n : Int)] = lim n := trim_lim (fun c hc => by simp at hc; omega) (by simp [nv])
theorem lim_len : (k n : Nat) → n < 10 ^ k → (lim n).length ≤ k
  | 0, n, h => by
    have : n = 0 := by simpa using h
    rw [this, lim_zero]
    simp
  | k + 1, n, h => by
    rcases Nat.eq_zero_or_pos n with rfl | h0
    · rw [lim_zero]; simp
    · rw [lim_pos h0, List.length_cons]
      have := lim_len k (n / 4294967296) (by rw [Nat.pow_succ] at h; omega)
      omega
theorem lim_one {n : Nat} (h0 : 0 < n) (h : n ≤ 4294967295) : lim n = [(n : Int)] := by
  rw [lim_pos h0, show n / 4294967296 = 0 by omega, lim_zero, show n % 4294967296 = n by omega]
theorem lim_mono : {a b : Nat} → a ≤ b → (lim a).length ≤ (lim b).length := by
  intro a
  induction a using Nat.strongRecOn with
  | ind a ih =>
    intro b h
    rcases Nat.eq_zero_or_pos a with rfl | h0
    · rw [lim_zero]; simp
    · rw [lim_pos h0, lim_pos (show 0 < b by omega), List.length_cons, List.length_cons]
      have := ih (a / 4294967296) (by omega) (b := b / 4294967296) (by omega)
      omega
def lsl (n : Nat) : AV := .psl (u32s (lim n)) (lim n).length
theorem pcMul (G : Nat → Option (List AV)) (a b k j : Nat) (ha : a < 10 ^ k) (hb : b < 10 ^ j) (hk : k + j ≤ 1000000) : Pc (Cf G) 180 [lsl a, lsl b] (lsl (a * b)) := by
  have h1 := lim_len k a ha
  have h2 := lim_len j b hb
  have := pc180 G (lim a) (lim b) (by omega) (lim_limbs a) (lim_limbs b)
  rw [mul_lim] at this
  exact this
theorem pcAdd (G : Nat → Option (List AV)) (a b k j : Nat) (ha : a < 10 ^ k) (hb : b < 10 ^ j) (hk : k + j ≤ 1000000) : Pc (Cf G) 181 [lsl a, lsl b] (lsl (a + b)) := by
  have h1 := lim_len k a ha
  have h2 := lim_len j b hb
  have := pc181 G (lim a) (lim b) (by omega) (lim_limbs a) (lim_limbs b)
  rw [add_lim] at this
  exact this
theorem pcTrim1 (G : Nat → Option (List AV)) (n : Nat) (h : n ≤ 4294967295) : Pc (Cf G) 183 [.psl [.sc (.int .u32 n)] 1] (lsl n) := by
  have := pc183 G [(n : Int)] (by simp)
  rw [trim_lim1 n h] at this
  exact this
end Go.Proofs.Bv
namespace Go.Proofs.Bv
open Go
def dstr (l : List Nat) : ByteArray := ⟨(l.map dByte).toArray⟩
def mv (l : List Nat) : Nat := l.foldl (fun a d => 10 * a + d) 0
theorem mv_go (l : List Nat) : ∀ a, l.foldl (fun a d => 10 * a + d) a = a * 10 ^ l.length + mv l := by
  induction l with
  | nil => intro a; simp [mv]
  | cons d l ih =>
    intro a
    simp only [mv, List.foldl_cons, List.length_cons]
    rw [ih, ih (10 * 0 + d), Nat.pow_succ]
    have e : (10 * a + d) * 10 ^ l.length = a * (10 ^ l.length * 10) + (10 * 0 + d) * 10 ^ l.length := by
      rw [Nat.add_mul, Nat.mul_comm 10 a, Nat.mul_assoc, Nat.mul_comm 10 (10 ^ l.length)]
      simp
    omega
theorem mv_app (a b : List Nat) : mv (a ++ b) = mv a * 10 ^ b.length + mv b := by
  unfold mv
  rw [List.foldl_append]
  exact mv_go b _
theorem mv_lt : (l : List Nat) → (∀ d ∈ l, d < 10) → mv l < 10 ^ l.length := by
  intro l
  induction l with
  | nil => intro _; simp [mv]
  | cons d l ih =>
    intro h
    have h1 := ih fun x hx => h x (by simp [hx])
    have h2 := h d (by simp)
    have e : mv (d :: l) = d * 10 ^ l.length + mv l := by
      have := mv_app [d] l
      simpa [mv] using this
    rw [e, List.length_cons, Nat.pow_succ]
    have : d * 10 ^ l.length ≤ 9 * 10 ^ l.length := Nat.mul_le_mul_right _ (by omega)
    omega
theorem dstr_size (l : List Nat) : (dstr l).size = l.length := by
  show ((l.map dByte).toArray).size = _
  simp
theorem dByte_nat {d : Nat} (h : d < 10) : (dByte d).toNat = 48 + d := by
  unfold dByte
  rw [UInt8.toNat_ofNat']
  omega
theorem dstr_cells {l : List Nat} (h : ∀ d ∈ l, d < 10) : byteCells (dstr l) = u8s l := by
  unfold byteCells u8s dstr
  simp only [List.map_map]
  refine List.map_congr_left fun d hd => ?_
  simp only [Function.comp, dByte_nat (h d hd)]
  simp
theorem dstr_cut (l : List Nat) (a b : Nat) : (dstr l).extract a b = dstr ((l.take b).drop a) := by
  apply ByteArray.ext
  rw [ByteArray.data_extract]
  apply Array.toList_inj.1
  simp [dstr, List.map_drop, List.map_take, List.extract_eq_take_drop, List.drop_take]
theorem u8s_at {l : List Nat} {k d : Nat} (h : l[k]? = some d) : (u8s l)[k * 1]? = some (.sc (.int .u8 (48 + (d : Int)))) := by simp [u8s, h]
theorem ok178 : codeOk 9 (Tryz.f178.body.getD .skip) = true := by kernel_rfl
theorem ok179 : codeOk 9 (Tryz.f179.body.getD .skip) = true := by kernel_rfl
theorem ok182 : codeOk 21 (Tryz.f182.body.getD .skip) = true := by kernel_rfl
theorem ok236 : codeOk 19 (Tryz.f236.body.getD .skip) = true := by kernel_rfl
theorem pc179 (G : Nat → Option (List AV)) (d : Nat) (h : d < 10) : Pc (Cf G) 179 [.sc (.int .u8 (48 + (d : Int)))] (.sc (.bool false)) := by
  have h1 : ¬ (48 + (d : Int)) < 48 := by omega
  have h2 : ¬ 57 < (48 + (d : Int)) := by omega
  refine Pc_of (Gf_enter (C := Cf G) Tryz.func179 rfl ok179 (Nat.le_of_ble_eq_true rfl) ?_)
  simp only [Tryz.f179, Option.getD_some]
  refine wB1 (wa h1 h2) ?_
  simp only [one1, frz_s, Option.map_some]
set_option maxHeartbeats 2000000 in
theorem pc236 (G : Nat → Option (List AV)) (l : List Nat) (hn : l.length ≤ 140737488355328) (h : ∀ d ∈ l, d < 10) : Pc (Cf G) 236 [.psl (u8s l) l.length, .fn (.func 179) []] (.sc (.int .i64 (-1))) := by
  refine Pc_of (Gf_enter (C := Cf G) Tryz.func236 rfl ok236 (Nat.le_of_ble_eq_true rfl) ?_)
  simp only [Tryz.f236, Option.getD_some]
  refine wB1 trivial ?_
  refine Gc_loop_inv (fun m st => ∃ d r, l = d ++ r ∧ m = r.length ∧ st.T 0 = .psl (u8s l) l.length ∧ st.T 1 = .fn (.func 179) [] ∧ st.T 7 = .sc (.int .i64 l.length) ∧ st.T 8 = .sc (.int .i64 d.length)) ?_ l.length _ ⟨[], l, rfl, rfl, ?_⟩
  · rintro m ⟨T, hh, n⟩ ⟨d, r, hdr, rfl, t0, t1, t7, t8⟩
    simp only at t0 t1 t7 t8
    cases r with
    | nil =>
      have hge : ¬ (d.length : Int) < (l.length : Int) := by rw [hdr]; simp
      refine wB1 (wa t0 (wa t1 (wa t7 (wa t8 hge)))) ?_
      simp only [one1, frz_s, Option.map_some]
    | cons x r =>
      have hlt : (d.length : Int) < (l.length : Int) := by rw [hdr]; simp; omega
      have hltn : d.length < l.length := by omega
      have hx := u8s_at (l := l) (k := d.length) (d := x) (by rw [hdr]; simp)
      have hc := pc179 G x (h x (by rw [hdr]; simp))
      have w1 : IntKind.i64.wrap ((d.length : Int) + 1) = (d.length : Int) + 1 := i64 (by omega) (by omega)
      refine wC1 (wa t0 (wa t1 (wa t7 (wa t8 (wa hlt (wa hltn (wa hx w1))))))) (wa hc trivial) ?_
      refine ⟨r.length, by simp, d ++ [x], r, by simp [hdr], rfl, ?_⟩
      simp [upd_ap, t0, t1, t7]
  · simp [upd_ap, argsT]
theorem pc178 (G : Nat → Option (List AV)) (l : List Nat) (hn : l.length ≤ 140737488355328) (h : ∀ d ∈ l, d < 10) : Pc (Cf G) 178 [.psl (u8s l) l.length, .fn (.func 179) []] (.sc (.bool false)) := by
  have hc := pc236 G l hn h
  refine Pc_of (Gf_enter (C := Cf G) Tryz.func178 rfl ok178 (Nat.le_of_ble_eq_true rfl) ?_)
  simp only [Tryz.f178, Option.getD_some]
  refine wC1 trivial (wa hc trivial) ?_
  simp only [one1, frz_s, Option.map_some]
set_option maxHeartbeats 2000000 in
theorem pc182 (G : Nat → Option (List AV)) (l : List Nat) (hn : l.length ≤ 9) (h : ∀ d ∈ l, d < 10) : Pc (Cf G) 182 [.sc (.string (dstr l))] (.sc (.int .u32 (mv l))) := by
  have hcells := dstr_cells h
  have hsz := dstr_size l
  refine Pc_of (Gf_enter (C := Cf G) Tryz.func182 rfl ok182 (Nat.le_of_ble_eq_true rfl) ?_)
  simp only [Tryz.f182, Option.getD_some]
  refine wB1 (wa hcells hsz) ?_
  refine Gc_loop_inv (fun m st => ∃ d r, l = d ++ r ∧ m = r.length ∧ st.T 7 = .psl (u8s l) l.length ∧ st.T 3 = .sc (.int .u32 (mv d)) ∧ st.T 8 = .sc (.int .i64 l.length) ∧ st.T 9 = .sc (.int .i64 d.length)) ?_ l.length _ ⟨[], l, rfl, rfl, ?_⟩
  · rintro m ⟨T, hh, n⟩ ⟨d, r, hdr, rfl, t7, t3, t8, t9⟩
    simp only at t7 t3 t8 t9
    cases r with
    | nil =>
      have hge : ¬ (d.length : Int) < (l.length : Int) := by rw [hdr]; simp
      have e : d = l := by simp [hdr]
      refine wB1 (wa t7 (wa t3 (wa t8 (wa t9 hge)))) ?_
      simp only [one1, frz_s, Option.map_some, e]
    | cons x r =>
      have hlt : (d.length : Int) < (l.length : Int) := by rw [hdr]; simp; omega
      have hltn : d.length < l.length := by omega
      have hxl := h x (by rw [hdr]; simp)
      have hx := u8s_at (l := l) (k := d.length) (d := x) (by rw [hdr]; simp)
      have hm := mv_lt d (fun y hy => h y (by rw [hdr]; simp [hy]))
      have hp : 10 ^ d.length ≤ 10 ^ 8 := Nat.pow_le_pow_right (by omega) (by omega)
      have w1 : IntKind.i64.wrap ((d.length : Int) + 1) = (d.length : Int) + 1 := i64 (by omega) (by omega)
      have m1 : IntKind.u32.wrap ((mv d : Int) * 10) = (mv d : Int) * 10 := IntWalk.u32_in _ (by omega)
      have m2 : IntKind.u8.wrap (48 + (x : Int) - 48) = (x : Int) := by rw [show 48 + (x : Int) - 48 = x by omega]; exact IntWalk.u8_in _ (by omega)
      have m3 : IntKind.u32.wrap (x : Int) = (x : Int) := IntWalk.u32_in _ (by omega)
      have m4 : IntKind.u32.wrap ((mv d : Int) * 10 + (x : Int)) = (mv d : Int) * 10 + (x : Int) := IntWalk.u32_in _ (by omega)
      have hmv : mv (d ++ [x]) = mv d * 10 + x := by rw [mv_app]; simp [mv]
      refine wB1 (wa t7 (wa t3 (wa t8 (wa t9 (wa hlt (wa hltn (wa hx (wa w1 (wa m1 (wa m2 (wa m3 m4))))))))))) ?_
      refine ⟨r.length, by simp, d ++ [x], r, by simp [hdr], rfl, ?_⟩
      simp [upd_ap, t7, t8, hmv]
  · simp [upd_ap, argsT, mv]
end Go.Proofs.Bv
namespace Go.Proofs.Bv
open Go
theorem dstr_nil {l : List Nat} : ((dstr l).toList == (ByteArray.mk #[]).toList) = decide (l = []) := by
  rw [ByteArray.toList_eq, ByteArray.toList_eq]
  cases l with
  | nil => rfl
  | cons d l => simp [dstr]
theorem bnds_lo {len k : Nat} (hk : k ≤ len) : bnds len (some (.sc (.int .i64 (k : Int)))) none = some (k, len) := by
  simp [bnds, asNat, hk]
theorem ok120 : codeOk 39 (Tryz.f120.body.getD .skip) = true := by kernel_rfl
set_option maxHeartbeats 8000000 in
set_option maxRecDepth 100000 in
theorem pc120 (G : Nat → Option (List AV)) (l : List Nat) (h0 : l ≠ []) (hn : l.length ≤ 2400) (h : ∀ d ∈ l, d < 10) : Pc (Cf G) 120 [.sc (.string (dstr l))] (.tup [lsl (mv l), .sc (.int .i64 0)]) := by
  have hlp : 0 < l.length := List.length_pos_iff.2 h0
  have q1 : ¬ (l.length : Int) = 0 := by omega
  have q2 : ¬ 2400 < (l.length : Int) := by omega
  have hsz := dstr_size l
  have hcells := dstr_cells h
  have hcf := pc178 G l (by omega) h
  refine Pc_of (Gf_enter (C := Cf G) Tryz.func120 rfl ok120 (Nat.le_of_ble_eq_true rfl) ?_)
  simp only [Tryz.f120, Option.getD_some]
  refine wC1 (wa hsz (wa hcells (wa q1 q2))) (wa hcf trivial) ?_
  refine Gc_loop_inv (fun m st => ∃ d r, l = d ++ r ∧ m = r.length ∧ (d = [] ∨ 9 ∣ r.length) ∧ (st.T 4 = .nilS ∧ d = [] ∨ st.T 4 = lsl (mv d)) ∧ st.T 0 = .sc (.string (dstr r))) ?_ l.length _ ⟨[], l, rfl, rfl, .inl rfl, .inl ⟨?_, rfl⟩, ?_⟩
  · rintro m ⟨T, hh, n⟩ ⟨d, r, hdr, rfl, hd9, t4, t0⟩
    simp only at t4 t0
    have hdl : l.length = d.length + r.length := by rw [hdr, List.length_append]
    have hr : ∀ x ∈ r, x < 10 := fun x hx => h x (by rw [hdr]; simp [hx])
    have hd : ∀ x ∈ d, x < 10 := fun x hx => h x (by rw [hdr]; simp [hx])
    by_cases hr0 : r = []
    · subst hr0
      have e : d = l := by simp [hdr]
      subst e
      rcases t4 with ⟨_, t4⟩ | t4
      · exact absurd t4 h0
      · unfold lsl at t4
        refine wB1 (wa t4 (wa t0 @dstr_nil)) ?_
        simp only [one1, frz_t, mapF, frz_l, frz_s, Option.map_some, lsl]
    · have hrp : 0 < r.length := List.length_pos_iff.2 hr0
      obtain ⟨k, hk⟩ : ∃ k, (r.length - 1) % 9 + 1 = k := ⟨_, rfl⟩
      have hk9 : k ≤ 9 := by omega
      have hkr : k ≤ r.length := by omega
      have hk1 : 1 ≤ k := by omega
      have w1 : IntKind.i64.wrap ((r.length : Int) - 1) = ((r.length - 1 : Nat) : Int) := by rw [i64 (by omega) (by omega)]; omega
      have w2 : ((r.length - 1 : Nat) : Int).tmod 9 = (((r.length - 1) % 9 : Nat) : Int) := by rw [Int.tmod_eq_emod_of_nonneg (by omega)]; omega
      have w3 : IntKind.i64.wrap ((((r.length - 1) % 9 : Nat) : Int) + 1) = (k : Int) := by rw [i64 (by omega) (by omega)]; omega
      have s1 := dstr_size r
      have b1 := bnds_hi (len := r.length) (k := k) hkr
      have b2 := bnds_lo (len := r.length) (k := k) hkr
      have x1 : (dstr r).extract 0 k = dstr (r.take k) := by rw [dstr_cut]; simp
      have x2 : (dstr r).extract k r.length = dstr (r.drop k) := by rw [dstr_cut]; simp
      have c1l : (r.take k).length = k := by rw [List.length_take]; omega
      have hpc := pc182 G (r.take k) (by omega) (fun x hx => hr x (List.mem_of_mem_take hx))
      have hc1 := mv_lt (r.take k) (fun x hx => hr x (List.mem_of_mem_take hx))
      rw [c1l] at hc1
      have hp9 : 10 ^ k ≤ 10 ^ 9 := Nat.pow_le_pow_right (by omega) hk9
      have hmd := mv_lt d hd
      have hm := pcMul G (mv d) 1000000000 d.length 10 hmd (by decide) (by omega)
      have ht := pcTrim1 G (mv (r.take k)) (by omega)
      have hmd9 : mv d * 1000000000 < 10 ^ (d.length + 9) := by
        rw [Nat.pow_add]
        exact Nat.mul_lt_mul_of_lt_of_le hmd (by decide) (by decide)
      have ha := pcAdd G (mv d * 1000000000) (mv (r.take k)) (d.length + 9) 9 hmd9 (by omega) (by omega)
      have hval : mv (d ++ r.take k) = mv d * 1000000000 + mv (r.take k) := by
        rw [mv_app, c1l]
        rcases hd9 with rfl | hd9
        · simp [mv]
        · have : k = 9 := by omega
          rw [this]
      rw [← hval] at ha
      have e9 : lsl 1000000000 = .psl [.sc (.int .u32 1000000000)] 1 := by unfold lsl; rw [lim_one (by omega) (by omega)]; rfl
      rw [e9] at hm
      have m0 : (mv ([] : List Nat)) = 0 := rfl
      have e0 : lsl 0 = .psl [] 0 := by unfold lsl; rw [lim_zero]; rfl
      have hfin : 9 ∣ (r.drop k).length := by rw [List.length_drop]; omega
      unfold lsl at hm ht ha
      rcases t4 with ⟨t4, rfl⟩ | t4
      · simp only [m0, Nat.zero_mul, lim_zero, List.length_nil] at hm ha
        refine gF1 (wa t4 (wa t0 (wa @dstr_nil (wa hr0 (wa s1 (wa w1 (wa w2 (wa w3 (wa b1 (wa b2 (wa x1 x2))))))))))) (wa hpc (wa ha (wa hm (wa ht trivial)))) ?_
        refine ⟨(r.drop k).length, by rw [List.length_drop]; omega, _, r.drop k, by rw [hdr, List.append_assoc, List.take_append_drop], rfl, .inr hfin, .inr ?_, ?_⟩
        · simp [upd_ap, tAt, lsl]
        · simp [upd_ap, tAt]
      · unfold lsl at t4
        refine gF1 (wa t4 (wa t0 (wa @dstr_nil (wa hr0 (wa s1 (wa w1 (wa w2 (wa w3 (wa b1 (wa b2 (wa x1 x2))))))))))) (wa hpc (wa ha (wa hm (wa ht trivial)))) ?_
        refine ⟨(r.drop k).length, by rw [List.length_drop]; omega, _, r.drop k, by rw [hdr, List.append_assoc, List.take_append_drop], rfl, .inr hfin, .inr ?_, ?_⟩
        · simp [upd_ap, tAt, lsl]
        · simp [upd_ap, tAt]
  · simp [upd_ap]
  · simp [upd_ap, argsT]
end Go.Proofs.Bv
namespace Go.Proofs.Bv
open Go
theorem ok223 : codeOk 54 (Tryz.f223.body.getD .skip) = true := by kernel_rfl
def OutSl (a : AV) (h : Heap) (n : Nat) (cs : List AV) : Prop := (cs = [] ∧ a = .nilS) ∨ (cs ≠ [] ∧ ∃ b, a = .osl b 0 cs.length ∧ h b = some (.cells cs 1 false) ∧ b < n)
theorem bs8 (a : Int) : fillA (fun i => some (i * 1, 1)) (rep 1 [.sc (.int .u8 0)]) [(0, .sc (.int .u8 a))] = some [.sc (.int .u8 a)] := rfl
theorem digs_step {V r : Nat} (h : V = r) (hp : 0 < r) : digs V = r % 10 :: digs (r / 10) := by rw [h, digs_pos hp]
set_option maxHeartbeats 4000000 in
set_option maxRecDepth 100000 in
theorem pc223 (G : Nat → Option (List AV)) (a : List Int) (hc : natChk a = 0) (ha : Limbs a) :
    Pc (Cf G) 223 [.psl (u32s a) a.length] (.tup [.sc (.string (decStr (nv a).toNat)), .sc (.int .i64 0)]) := by
  obtain ⟨hta, hla⟩ := TopOk_of_chk hc
  have h160 := pc160 G a (by omega)
  rw [hc] at h160
  have hdl := digs_nv ha
  refine Pc_of (Gf_enter (C := Cf G) Tryz.func223 rfl ok223 (Nat.le_of_ble_eq_true rfl) ?_)
  simp only [Tryz.f223, Option.getD_some]
  refine wC1 trivial (wa h160 trivial) ?_
  refine Gc_loop_inv (fun m st => ∃ (ds : List Nat) (left : List Int), m = (nv left).toNat ∧ digs (nv a).toNat = ds ++ digs (nv left).toNat ∧ Limbs left ∧ TopOk left ∧ left.length ≤ 256 ∧ st.T 6 = .psl (u32s left) left.length ∧ OutSl (st.T 5) st.h st.n (u8s ds)) ?_ (nv a).toNat _ ⟨[], a, rfl, rfl, ha, hta, hla, ?_, ?_⟩
  · rintro m ⟨T, h, n⟩ ⟨ds, left, rfl, hd, hL, ht, hl, h6, ho⟩
    simp only at h6 ho
    have hdlen : ds.length ≤ 2560 := by
      have := congrArg List.length hd
      simp only [List.length_append] at this
      omega
    by_cases hle : left = []
    · subst hle
      have hds : ds = digs (nv a).toNat := by rw [hd]; simp [nv, digs_zero]
      rcases ho with ⟨hcs, h5⟩ | ⟨hcs, b, h5, hbk, hbn⟩
      · have hz : (nv a).toNat = 0 := by
          apply digs_nil.1
          rw [← hds]
          simpa [u8s] using hcs
        rw [hz]
        refine wB1 (wa h5 (wa h6 @OutSl.eq_1)) ?_
        simp only [one1, frz_t, mapF, frz_s, Option.map_some, List.append_nil]
        rfl
      · have hdne : ds ≠ [] := by
          rintro rfl
          exact hcs rfl
        have hdl2 : ds.length ≠ 0 := by
          intro e
          exact hdne (List.eq_nil_of_length_eq_zero e)
        have hne : ¬ ((u8s ds).length : Int) = 0 := by rw [u8s_len]; omega
        have hnz : (nv a).toNat ≠ 0 := by
          intro e
          rw [e, digs_zero] at hds
          exact hdne hds
        have hcut : cut (u8s ds).reverse 0 ((u8s ds).length * 1) = (u8s ds).reverse := by
          simp only [cut, List.drop_zero, Nat.mul_one]
          rw [List.take_of_length_le (by simp)]
        have hlen : (u8s ds).reverse.length = (u8s ds).length := by simp
        have hbl : (u8s ds).length * 1 ≤ (u8s ds).length := by omega
        have hby : bytesOf (u8s ds).reverse = some (ds.reverse.map dByte) := by
          rw [u8s_rev]
          apply bytesOf_u8s
          intro d hdm
          rw [List.mem_reverse, hds] at hdm
          exact digs_lt _ d hdm
        refine wB1 (wa h5 (wa h6 hne)) ?_
        refine st_walk rfl rfl rfl (by simp only [vop, val, argsT, upd_ap, Nat.reduceEqDiff, if_true, if_false, ite_true, ite_false, reduceIte, loadAt, loadA, AV.cells, AV.one, List.all_cons, List.all_nil, ofV, ofCell, plain, List.getElem?_cons_zero, List.getElem?_cons_succ, List.getElem?_toArray, Option.getD_some, Bool.not_true, Bool.not_false, Bool.false_eq_true, Bool.and_true, Bool.true_and, Bool.and_self, Nat.zero_add, Option.map_some, Option.bind_some, List.map_cons, List.map_nil, ev_add, ev_sub, ev_mul, ev_lss, ev_leq, ev_gtr, ev_geq, ev_eql, ev_neq, ev_seql, ev_sneq, ev_sleq, ev_slss, ev_not, ev_min, ev_max, asNat_nat, asNat_zero, asNat_one, asNat_two, asNat_three, vb_len, List.length_cons, List.length_nil, Nat.reduceAdd, Nat.reduceLeDiff, Nat.reduceMul, Int.reduceEq, Int.reduceLT, Int.reduceLE, Int.reduceNeg, Int.reduceAdd, Int.reduceSub, Nat.reduceLT, decide_true, decide_false, not_true_eq_false, not_false_eq_true, and_self, and_true, true_and, storeA, List.take_zero, List.drop_succ_cons, List.drop_zero, List.nil_append, List.append_nil, List.take_succ_cons, List.cons_append, cut_cons, cut_zero, cut_skip, tAt, hHide, hAt, upsAt, List.contains_cons, List.contains_nil, Nat.reduceBEq, Bool.or_true, Bool.true_or, Bool.or_false, Bool.false_or, Bool.or_self, Bool.and_true, Bool.true_and, Bool.and_false, Bool.false_and, beq_self_eq_true (α := Nat), Option.some_beq_some, Option.none_beq_some, Option.some_beq_none, Bool.false_eq_true, List.all_nil, touch, touchB, Nat.sub_self, List.range'_zero, Nat.add_sub_cancel_left, List.range'_one, h5]; with_reducible rfl) rfl rfl ?_
        refine gf282 G (u8s ds) (by intro x hx; simp only [u8s, List.mem_map] at hx; obtain ⟨d, _, rfl⟩ := hx; exact ⟨_, rfl⟩) (by rw [u8s_len]; omega) b hbk _ ?_
        refine st_gn (Nat.le_refl _) rfl ?_
        refine wB1 (wa h5 (wa hcut (wa hlen (wa hbl hby)))) ?_
        simp only [one1, frz_t, mapF, frz_s, Option.map_some, List.append_nil]
        rw [hds]
        simp only [decStr, if_neg hnz]
    · have hpos : (0 : Int) < (left.length : Int) := by
        have := List.length_pos_iff.2 hle
        omega
      have h281 := pc281 G left 1000000000 (by omega) hL (by omega)
      have hnvp := nv_pos hL ht hle
      have hq0 := nv_dmQ (show (0 : Int) < 1000000000 by omega) left
      have hqL := trim_limbs (dmQ_limbs (show (0 : Int) < 1000000000 by omega) hL)
      have hqt := trim_top (dmQ left 1000000000)
      have hql : (trimL (dmQ left 1000000000)).length ≤ 256 := by
        have := trim_len (dmQ left 1000000000)
        rw [dmQ_len] at this
        omega
      have hqv : nv (trimL (dmQ left 1000000000)) = nv left / 1000000000 := by rw [nv_trim, hq0]
      generalize trimL (dmQ left 1000000000) = q at *
      refine wC1 (wa h6 hpos) (wa h281 trivial) ?_
      refine Gc_loop_inv (fun m st => ∃ (ds : List Nat) (i r V : Nat), m = 9 - i ∧ i ≤ 9 ∧ r < 10 ^ (9 - i) ∧ V = (nv q).toNat * 10 ^ (9 - i) + r ∧ digs (nv a).toNat = ds ++ digs V ∧ st.T 7 = .psl (u32s q) q.length ∧ st.T 8 = .sc (.int .u32 r) ∧ st.T 9 = .sc (.int .i64 i) ∧ OutSl (st.T 5) st.h st.n (u8s ds)) ?_ 9 _ ⟨ds, 0, (nv left % 1000000000).toNat, (nv left).toNat, rfl, by omega, ?_, ?_, hd, ?_, ?_, ?_, ?_⟩
      · rintro m ⟨T, h, n⟩ ⟨ds, i, r, V, rfl, hi, hr1, hV, hd, h7, h8, h9, ho⟩
        simp only at h7 h8 h9 ho
        have hqn := nv_nonneg hqL
        have hdlen : ds.length ≤ 2560 := by
          have := congrArg List.length hd
          simp only [List.length_append] at this
          omega
        by_cases h9i : i = 9
        · subst h9i
          have hr : r = 0 := by simpa using hr1
          subst hr
          have hVq : V = (nv q).toNat := by simp [hV]
          have hge : ¬ (((9 : Nat) : Int) < 9) := by omega
          refine wB1 (wa h7 (wa h8 (wa h9 hge))) ?_
          exact ⟨(nv q).toNat, by rw [hqv]; omega, ds, q, rfl, by rw [← hVq]; exact hd, hqL, hqt, hql, by simp only [vop, val, argsT, upd_ap, Nat.reduceEqDiff, if_true, if_false, ite_true, ite_false, reduceIte, loadAt, loadA, AV.cells, AV.one, List.all_cons, List.all_nil, ofV, ofCell, plain, List.getElem?_cons_zero, List.getElem?_cons_succ, List.getElem?_toArray, Option.getD_some, Bool.not_true, Bool.not_false, Bool.false_eq_true, Bool.and_true, Bool.true_and, Bool.and_self, Nat.zero_add, Option.map_some, Option.bind_some, List.map_cons, List.map_nil, ev_add, ev_sub, ev_mul, ev_lss, ev_leq, ev_gtr, ev_geq, ev_eql, ev_neq, ev_seql, ev_sneq, ev_sleq, ev_slss, ev_not, ev_min, ev_max, asNat_nat, asNat_zero, asNat_one, asNat_two, asNat_three, vb_len, List.length_cons, List.length_nil, Nat.reduceAdd, Nat.reduceLeDiff, Nat.reduceMul, Int.reduceEq, Int.reduceLT, Int.reduceLE, Int.reduceNeg, Int.reduceAdd, Int.reduceSub, Nat.reduceLT, decide_true, decide_false, not_true_eq_false, not_false_eq_true, and_self, and_true, true_and, storeA, List.take_zero, List.drop_succ_cons, List.drop_zero, List.nil_append, List.append_nil, List.take_succ_cons, List.cons_append, cut_cons, cut_zero, cut_skip, tAt, hHide, hAt, upsAt, List.contains_cons, List.contains_nil, Nat.reduceBEq, Bool.or_true, Bool.true_or, Bool.or_false, Bool.false_or, Bool.or_self, Bool.and_true, Bool.true_and, Bool.and_false, Bool.false_and, beq_self_eq_true (α := Nat), Option.some_beq_some, Option.none_beq_some, Option.some_beq_none, Bool.false_eq_true, List.all_nil, touch, touchB, Nat.sub_self, List.range'_zero, Nat.add_sub_cancel_left, List.range'_one, h7], by simp only [vop, val, argsT, upd_ap, Nat.reduceEqDiff, if_true, if_false, ite_true, ite_false, reduceIte, loadAt, loadA, AV.cells, AV.one, List.all_cons, List.all_nil, ofV, ofCell, plain, List.getElem?_cons_zero, List.getElem?_cons_succ, List.getElem?_toArray, Option.getD_some, Bool.not_true, Bool.not_false, Bool.false_eq_true, Bool.and_true, Bool.true_and, Bool.and_self, Nat.zero_add, Option.map_some, Option.bind_some, List.map_cons, List.map_nil, ev_add, ev_sub, ev_mul, ev_lss, ev_leq, ev_gtr, ev_geq, ev_eql, ev_neq, ev_seql, ev_sneq, ev_sleq, ev_slss, ev_not, ev_min, ev_max, asNat_nat, asNat_zero, asNat_one, asNat_two, asNat_three, vb_len, List.length_cons, List.length_nil, Nat.reduceAdd, Nat.reduceLeDiff, Nat.reduceMul, Int.reduceEq, Int.reduceLT, Int.reduceLE, Int.reduceNeg, Int.reduceAdd, Int.reduceSub, Nat.reduceLT, decide_true, decide_false, not_true_eq_false, not_false_eq_true, and_self, and_true, true_and, storeA, List.take_zero, List.drop_succ_cons, List.drop_zero, List.nil_append, List.append_nil, List.take_succ_cons, List.cons_append, cut_cons, cut_zero, cut_skip, tAt, hHide, hAt, upsAt, List.contains_cons, List.contains_nil, Nat.reduceBEq, Bool.or_true, Bool.true_or, Bool.or_false, Bool.false_or, Bool.or_self, Bool.and_true, Bool.true_and, Bool.and_false, Bool.false_and, beq_self_eq_true (α := Nat), Option.some_beq_some, Option.none_beq_some, Option.some_beq_none, Bool.false_eq_true, List.all_nil, touch, touchB, Nat.sub_self, List.range'_zero, Nat.add_sub_cancel_left, List.range'_one]; exact ho⟩
        · obtain ⟨k, hk⟩ : ∃ k, 9 - i = k + 1 := ⟨9 - i - 1, by omega⟩
          have hlt : (i : Int) < 9 := by omega
          rw [hk, Nat.pow_succ] at hr1
          have hV2 : V = 10 * ((nv q).toNat * 10 ^ k) + r := by
            rw [hV, hk, Nat.pow_succ, ← Nat.mul_assoc, Nat.mul_comm _ 10]
          have hr32 : r < 1000000000 := by
            have h1 : 10 ^ (k + 1) ≤ 10 ^ 9 := Nat.pow_le_pow_right (by omega) (by omega)
            rw [Nat.pow_succ] at h1
            omega
          have w1 : (r : Int).tmod 10 = ((r % 10 : Nat) : Int) := by rw [Int.tmod_eq_emod_of_nonneg (by omega)]; omega
          have w2 : IntKind.u32.wrap (48 + ((r % 10 : Nat) : Int)) = 48 + ((r % 10 : Nat) : Int) := IntWalk.u32_in _ (by omega)
          have w3 : IntKind.u8.wrap (48 + ((r % 10 : Nat) : Int)) = 48 + ((r % 10 : Nat) : Int) := IntWalk.u8_in _ (by omega)
          have w4 : IntKind.u32.wrap ((r : Int).tdiv 10) = ((r / 10 : Nat) : Int) := by rw [Int.tdiv_eq_ediv_of_nonneg (by omega), IntWalk.u32_in _ (by omega)]; omega
          have w5 : IntKind.i64.wrap ((i : Int) + 1) = ((i + 1 : Nat) : Int) := by rw [i64 (by omega) (by omega)]; omega
          have step : 0 < V → digs (nv a).toNat = (ds ++ [r % 10]) ++ digs ((nv q).toNat * 10 ^ (9 - (i + 1)) + r / 10) := by
            intro hVp
            rw [hd, digs_pos hVp, show 9 - (i + 1) = k by omega, hV2, List.append_assoc]
            congr 1
            rw [show (10 * ((nv q).toNat * 10 ^ k) + r) % 10 = r % 10 by omega, show (10 * ((nv q).toNat * 10 ^ k) + r) / 10 = (nv q).toNat * 10 ^ k + r / 10 by omega]
            rfl
          have hr' : r / 10 < 10 ^ (9 - (i + 1)) := by
            rw [show 9 - (i + 1) = k by omega]
            omega
          by_cases hqe : q = []
          · by_cases hrz : r = 0
            · subst hqe; subst hrz
              have hVq : V = (nv ([] : List Int)).toNat := by simp [hV, nv]
              refine wB1 (wa h7 (wa h8 (wa h9 hlt))) ?_
              exact ⟨(nv ([] : List Int)).toNat, by simp [nv]; omega, ds, [], rfl, by rw [← hVq]; exact hd, hqL, hqt, hql, by simp only [vop, val, argsT, upd_ap, Nat.reduceEqDiff, if_true, if_false, ite_true, ite_false, reduceIte, loadAt, loadA, AV.cells, AV.one, List.all_cons, List.all_nil, ofV, ofCell, plain, List.getElem?_cons_zero, List.getElem?_cons_succ, List.getElem?_toArray, Option.getD_some, Bool.not_true, Bool.not_false, Bool.false_eq_true, Bool.and_true, Bool.true_and, Bool.and_self, Nat.zero_add, Option.map_some, Option.bind_some, List.map_cons, List.map_nil, ev_add, ev_sub, ev_mul, ev_lss, ev_leq, ev_gtr, ev_geq, ev_eql, ev_neq, ev_seql, ev_sneq, ev_sleq, ev_slss, ev_not, ev_min, ev_max, asNat_nat, asNat_zero, asNat_one, asNat_two, asNat_three, vb_len, List.length_cons, List.length_nil, Nat.reduceAdd, Nat.reduceLeDiff, Nat.reduceMul, Int.reduceEq, Int.reduceLT, Int.reduceLE, Int.reduceNeg, Int.reduceAdd, Int.reduceSub, Nat.reduceLT, decide_true, decide_false, not_true_eq_false, not_false_eq_true, and_self, and_true, true_and, storeA, List.take_zero, List.drop_succ_cons, List.drop_zero, List.nil_append, List.append_nil, List.take_succ_cons, List.cons_append, cut_cons, cut_zero, cut_skip, tAt, hHide, hAt, upsAt, List.contains_cons, List.contains_nil, Nat.reduceBEq, Bool.or_true, Bool.true_or, Bool.or_false, Bool.false_or, Bool.or_self, Bool.and_true, Bool.true_and, Bool.and_false, Bool.false_and, beq_self_eq_true (α := Nat), Option.some_beq_some, Option.none_beq_some, Option.some_beq_none, Bool.false_eq_true, List.all_nil, touch, touchB, Nat.sub_self, List.range'_zero, Nat.add_sub_cancel_left, List.range'_one, h7], by simp only [vop, val, argsT, upd_ap, Nat.reduceEqDiff, if_true, if_false, ite_true, ite_false, reduceIte, loadAt, loadA, AV.cells, AV.one, List.all_cons, List.all_nil, ofV, ofCell, plain, List.getElem?_cons_zero, List.getElem?_cons_succ, List.getElem?_toArray, Option.getD_some, Bool.not_true, Bool.not_false, Bool.false_eq_true, Bool.and_true, Bool.true_and, Bool.and_self, Nat.zero_add, Option.map_some, Option.bind_some, List.map_cons, List.map_nil, ev_add, ev_sub, ev_mul, ev_lss, ev_leq, ev_gtr, ev_geq, ev_eql, ev_neq, ev_seql, ev_sneq, ev_sleq, ev_slss, ev_not, ev_min, ev_max, asNat_nat, asNat_zero, asNat_one, asNat_two, asNat_three, vb_len, List.length_cons, List.length_nil, Nat.reduceAdd, Nat.reduceLeDiff, Nat.reduceMul, Int.reduceEq, Int.reduceLT, Int.reduceLE, Int.reduceNeg, Int.reduceAdd, Int.reduceSub, Nat.reduceLT, decide_true, decide_false, not_true_eq_false, not_false_eq_true, and_self, and_true, true_and, storeA, List.take_zero, List.drop_succ_cons, List.drop_zero, List.nil_append, List.append_nil, List.take_succ_cons, List.cons_append, cut_cons, cut_zero, cut_skip, tAt, hHide, hAt, upsAt, List.contains_cons, List.contains_nil, Nat.reduceBEq, Bool.or_true, Bool.true_or, Bool.or_false, Bool.false_or, Bool.or_self, Bool.and_true, Bool.true_and, Bool.and_false, Bool.false_and, beq_self_eq_true (α := Nat), Option.some_beq_some, Option.none_beq_some, Option.some_beq_none, Bool.false_eq_true, List.all_nil, touch, touchB, Nat.sub_self, List.range'_zero, Nat.add_sub_cancel_left, List.range'_one]; exact ho⟩
            · have hrp : (0 : Int) < (r : Int) := by omega
              have hVp : 0 < V := by omega
              subst hqe
              have hl1 : (u8s ds).length * 1 ≤ (u8s ds).length := by omega
              have hl2 : ((u8s ds).length + 1) * 1 ≤ 140737488355328 := by rw [u8s_len]; omega
              have hl3 : (u8s ds).length + 1 ≤ 140737488355328 := by rw [u8s_len]; omega
              have hcut0 : cut (u8s ds) 0 ((u8s ds).length * 1) = u8s ds := by
                simp only [cut, List.drop_zero, Nat.mul_one]
                rw [List.take_of_length_le (by simp)]
              have hsn : u8s (ds ++ [r % 10]) = u8s ds ++ [.sc (.int .u8 (48 + ((r % 10 : Nat) : Int)))] := u8s_app ds [r % 10]
              rcases ho with ⟨hcs, h5⟩ | ⟨hcs, b, h5, hbk, hbn⟩
              · refine wB1 (wa h5 (wa h7 (wa h8 (wa h9 (wa hlt (wa hrp (wa w1 (wa w2 (wa w3 (wa w4 (wa w5 (wa @bs8 @Nat.one_ne_zero)))))))))))) ?_
                refine ⟨9 - (i + 1), by omega, ds ++ [r % 10], i + 1, r / 10, (nv ([] : List Int)).toNat * 10 ^ (9 - (i + 1)) + r / 10, rfl, by omega, hr', rfl, step hVp, ?_, ?_, ?_, ?_⟩
                · simp only [vop, val, argsT, upd_ap, Nat.reduceEqDiff, if_true, if_false, ite_true, ite_false, reduceIte, loadAt, loadA, AV.cells, AV.one, List.all_cons, List.all_nil, ofV, ofCell, plain, List.getElem?_cons_zero, List.getElem?_cons_succ, List.getElem?_toArray, Option.getD_some, Bool.not_true, Bool.not_false, Bool.false_eq_true, Bool.and_true, Bool.true_and, Bool.and_self, Nat.zero_add, Option.map_some, Option.bind_some, List.map_cons, List.map_nil, ev_add, ev_sub, ev_mul, ev_lss, ev_leq, ev_gtr, ev_geq, ev_eql, ev_neq, ev_seql, ev_sneq, ev_sleq, ev_slss, ev_not, ev_min, ev_max, asNat_nat, asNat_zero, asNat_one, asNat_two, asNat_three, vb_len, List.length_cons, List.length_nil, Nat.reduceAdd, Nat.reduceLeDiff, Nat.reduceMul, Int.reduceEq, Int.reduceLT, Int.reduceLE, Int.reduceNeg, Int.reduceAdd, Int.reduceSub, Nat.reduceLT, decide_true, decide_false, not_true_eq_false, not_false_eq_true, and_self, and_true, true_and, storeA, List.take_zero, List.drop_succ_cons, List.drop_zero, List.nil_append, List.append_nil, List.take_succ_cons, List.cons_append, cut_cons, cut_zero, cut_skip, tAt, hHide, hAt, upsAt, List.contains_cons, List.contains_nil, Nat.reduceBEq, Bool.or_true, Bool.true_or, Bool.or_false, Bool.false_or, Bool.or_self, Bool.and_true, Bool.true_and, Bool.and_false, Bool.false_and, beq_self_eq_true (α := Nat), Option.some_beq_some, Option.none_beq_some, Option.some_beq_none, Bool.false_eq_true, List.all_nil, touch, touchB, Nat.sub_self, List.range'_zero, Nat.add_sub_cancel_left, List.range'_one, h7, List.length_nil]
                · simp only [vop, val, argsT, upd_ap, Nat.reduceEqDiff, if_true, if_false, ite_true, ite_false, reduceIte, loadAt, loadA, AV.cells, AV.one, List.all_cons, List.all_nil, ofV, ofCell, plain, List.getElem?_cons_zero, List.getElem?_cons_succ, List.getElem?_toArray, Option.getD_some, Bool.not_true, Bool.not_false, Bool.false_eq_true, Bool.and_true, Bool.true_and, Bool.and_self, Nat.zero_add, Option.map_some, Option.bind_some, List.map_cons, List.map_nil, ev_add, ev_sub, ev_mul, ev_lss, ev_leq, ev_gtr, ev_geq, ev_eql, ev_neq, ev_seql, ev_sneq, ev_sleq, ev_slss, ev_not, ev_min, ev_max, asNat_nat, asNat_zero, asNat_one, asNat_two, asNat_three, vb_len, List.length_cons, List.length_nil, Nat.reduceAdd, Nat.reduceLeDiff, Nat.reduceMul, Int.reduceEq, Int.reduceLT, Int.reduceLE, Int.reduceNeg, Int.reduceAdd, Int.reduceSub, Nat.reduceLT, decide_true, decide_false, not_true_eq_false, not_false_eq_true, and_self, and_true, true_and, storeA, List.take_zero, List.drop_succ_cons, List.drop_zero, List.nil_append, List.append_nil, List.take_succ_cons, List.cons_append, cut_cons, cut_zero, cut_skip, tAt, hHide, hAt, upsAt, List.contains_cons, List.contains_nil, Nat.reduceBEq, Bool.or_true, Bool.true_or, Bool.or_false, Bool.false_or, Bool.or_self, Bool.and_true, Bool.true_and, Bool.and_false, Bool.false_and, beq_self_eq_true (α := Nat), Option.some_beq_some, Option.none_beq_some, Option.some_beq_none, Bool.false_eq_true, List.all_nil, touch, touchB, Nat.sub_self, List.range'_zero, Nat.add_sub_cancel_left, List.range'_one]
                · simp only [vop, val, argsT, upd_ap, Nat.reduceEqDiff, if_true, if_false, ite_true, ite_false, reduceIte, loadAt, loadA, AV.cells, AV.one, List.all_cons, List.all_nil, ofV, ofCell, plain, List.getElem?_cons_zero, List.getElem?_cons_succ, List.getElem?_toArray, Option.getD_some, Bool.not_true, Bool.not_false, Bool.false_eq_true, Bool.and_true, Bool.true_and, Bool.and_self, Nat.zero_add, Option.map_some, Option.bind_some, List.map_cons, List.map_nil, ev_add, ev_sub, ev_mul, ev_lss, ev_leq, ev_gtr, ev_geq, ev_eql, ev_neq, ev_seql, ev_sneq, ev_sleq, ev_slss, ev_not, ev_min, ev_max, asNat_nat, asNat_zero, asNat_one, asNat_two, asNat_three, vb_len, List.length_cons, List.length_nil, Nat.reduceAdd, Nat.reduceLeDiff, Nat.reduceMul, Int.reduceEq, Int.reduceLT, Int.reduceLE, Int.reduceNeg, Int.reduceAdd, Int.reduceSub, Nat.reduceLT, decide_true, decide_false, not_true_eq_false, not_false_eq_true, and_self, and_true, true_and, storeA, List.take_zero, List.drop_succ_cons, List.drop_zero, List.nil_append, List.append_nil, List.take_succ_cons, List.cons_append, cut_cons, cut_zero, cut_skip, tAt, hHide, hAt, upsAt, List.contains_cons, List.contains_nil, Nat.reduceBEq, Bool.or_true, Bool.true_or, Bool.or_false, Bool.false_or, Bool.or_self, Bool.and_true, Bool.true_and, Bool.and_false, Bool.false_and, beq_self_eq_true (α := Nat), Option.some_beq_some, Option.none_beq_some, Option.some_beq_none, Bool.false_eq_true, List.all_nil, touch, touchB, Nat.sub_self, List.range'_zero, Nat.add_sub_cancel_left, List.range'_one]
                · rw [hsn, hcs]
                  exact .inr ⟨by simp, n + 1, by simp only [vop, val, argsT, upd_ap, Nat.reduceEqDiff, if_true, if_false, ite_true, ite_false, reduceIte, loadAt, loadA, AV.cells, AV.one, List.all_cons, List.all_nil, ofV, ofCell, plain, List.getElem?_cons_zero, List.getElem?_cons_succ, List.getElem?_toArray, Option.getD_some, Bool.not_true, Bool.not_false, Bool.false_eq_true, Bool.and_true, Bool.true_and, Bool.and_self, Nat.zero_add, Option.map_some, Option.bind_some, List.map_cons, List.map_nil, ev_add, ev_sub, ev_mul, ev_lss, ev_leq, ev_gtr, ev_geq, ev_eql, ev_neq, ev_seql, ev_sneq, ev_sleq, ev_slss, ev_not, ev_min, ev_max, asNat_nat, asNat_zero, asNat_one, asNat_two, asNat_three, vb_len, List.length_cons, List.length_nil, Nat.reduceAdd, Nat.reduceLeDiff, Nat.reduceMul, Int.reduceEq, Int.reduceLT, Int.reduceLE, Int.reduceNeg, Int.reduceAdd, Int.reduceSub, Nat.reduceLT, decide_true, decide_false, not_true_eq_false, not_false_eq_true, and_self, and_true, true_and, storeA, List.take_zero, List.drop_succ_cons, List.drop_zero, List.nil_append, List.append_nil, List.take_succ_cons, List.cons_append, cut_cons, cut_zero, cut_skip, tAt, hHide, hAt, upsAt, List.contains_cons, List.contains_nil, Nat.reduceBEq, Bool.or_true, Bool.true_or, Bool.or_false, Bool.false_or, Bool.or_self, Bool.and_true, Bool.true_and, Bool.and_false, Bool.false_and, beq_self_eq_true (α := Nat), Option.some_beq_some, Option.none_beq_some, Option.some_beq_none, Bool.false_eq_true, List.all_nil, touch, touchB, Nat.sub_self, List.range'_zero, Nat.add_sub_cancel_left, List.range'_one], by simp only [vop, val, argsT, upd_ap, Nat.reduceEqDiff, if_true, if_false, ite_true, ite_false, reduceIte, loadAt, loadA, AV.cells, AV.one, List.all_cons, List.all_nil, ofV, ofCell, plain, List.getElem?_cons_zero, List.getElem?_cons_succ, List.getElem?_toArray, Option.getD_some, Bool.not_true, Bool.not_false, Bool.false_eq_true, Bool.and_true, Bool.true_and, Bool.and_self, Nat.zero_add, Option.map_some, Option.bind_some, List.map_cons, List.map_nil, ev_add, ev_sub, ev_mul, ev_lss, ev_leq, ev_gtr, ev_geq, ev_eql, ev_neq, ev_seql, ev_sneq, ev_sleq, ev_slss, ev_not, ev_min, ev_max, asNat_nat, asNat_zero, asNat_one, asNat_two, asNat_three, vb_len, List.length_cons, List.length_nil, Nat.reduceAdd, Nat.reduceLeDiff, Nat.reduceMul, Int.reduceEq, Int.reduceLT, Int.reduceLE, Int.reduceNeg, Int.reduceAdd, Int.reduceSub, Nat.reduceLT, decide_true, decide_false, not_true_eq_false, not_false_eq_true, and_self, and_true, true_and, storeA, List.take_zero, List.drop_succ_cons, List.drop_zero, List.nil_append, List.append_nil, List.take_succ_cons, List.cons_append, cut_cons, cut_zero, cut_skip, tAt, hHide, hAt, upsAt, List.contains_cons, List.contains_nil, Nat.reduceBEq, Bool.or_true, Bool.true_or, Bool.or_false, Bool.false_or, Bool.or_self, Bool.and_true, Bool.true_and, Bool.and_false, Bool.false_and, beq_self_eq_true (α := Nat), Option.some_beq_some, Option.none_beq_some, Option.some_beq_none, Bool.false_eq_true, List.all_nil, touch, touchB, Nat.sub_self, List.range'_zero, Nat.add_sub_cancel_left, List.range'_one], by simp⟩
              · have hbne : ¬ b = n := by omega
                have hbne1 : ¬ n + 1 = b := by omega
                refine wB1 (wa h5 (wa h7 (wa h8 (wa h9 (wa hlt (wa hrp (wa w1 (wa w2 (wa w3 (wa w4 (wa w5 (wa @bs8 (wa @Nat.one_ne_zero (wa hbk (wa hbne (wa hl1 (wa hl2 (wa hl3 hcut0)))))))))))))))))) ?_
                refine ⟨9 - (i + 1), by omega, ds ++ [r % 10], i + 1, r / 10, (nv ([] : List Int)).toNat * 10 ^ (9 - (i + 1)) + r / 10, rfl, by omega, hr', rfl, step hVp, ?_, ?_, ?_, ?_⟩
                · simp only [vop, val, argsT, upd_ap, Nat.reduceEqDiff, if_true, if_false, ite_true, ite_false, reduceIte, loadAt, loadA, AV.cells, AV.one, List.all_cons, List.all_nil, ofV, ofCell, plain, List.getElem?_cons_zero, List.getElem?_cons_succ, List.getElem?_toArray, Option.getD_some, Bool.not_true, Bool.not_false, Bool.false_eq_true, Bool.and_true, Bool.true_and, Bool.and_self, Nat.zero_add, Option.map_some, Option.bind_some, List.map_cons, List.map_nil, ev_add, ev_sub, ev_mul, ev_lss, ev_leq, ev_gtr, ev_geq, ev_eql, ev_neq, ev_seql, ev_sneq, ev_sleq, ev_slss, ev_not, ev_min, ev_max, asNat_nat, asNat_zero, asNat_one, asNat_two, asNat_three, vb_len, List.length_cons, List.length_nil, Nat.reduceAdd, Nat.reduceLeDiff, Nat.reduceMul, Int.reduceEq, Int.reduceLT, Int.reduceLE, Int.reduceNeg, Int.reduceAdd, Int.reduceSub, Nat.reduceLT, decide_true, decide_false, not_true_eq_false, not_false_eq_true, and_self, and_true, true_and, storeA, List.take_zero, List.drop_succ_cons, List.drop_zero, List.nil_append, List.append_nil, List.take_succ_cons, List.cons_append, cut_cons, cut_zero, cut_skip, tAt, hHide, hAt, upsAt, List.contains_cons, List.contains_nil, Nat.reduceBEq, Bool.or_true, Bool.true_or, Bool.or_false, Bool.false_or, Bool.or_self, Bool.and_true, Bool.true_and, Bool.and_false, Bool.false_and, beq_self_eq_true (α := Nat), Option.some_beq_some, Option.none_beq_some, Option.some_beq_none, Bool.false_eq_true, List.all_nil, touch, touchB, Nat.sub_self, List.range'_zero, Nat.add_sub_cancel_left, List.range'_one, h7, List.length_nil]
                · simp only [vop, val, argsT, upd_ap, Nat.reduceEqDiff, if_true, if_false, ite_true, ite_false, reduceIte, loadAt, loadA, AV.cells, AV.one, List.all_cons, List.all_nil, ofV, ofCell, plain, List.getElem?_cons_zero, List.getElem?_cons_succ, List.getElem?_toArray, Option.getD_some, Bool.not_true, Bool.not_false, Bool.false_eq_true, Bool.and_true, Bool.true_and, Bool.and_self, Nat.zero_add, Option.map_some, Option.bind_some, List.map_cons, List.map_nil, ev_add, ev_sub, ev_mul, ev_lss, ev_leq, ev_gtr, ev_geq, ev_eql, ev_neq, ev_seql, ev_sneq, ev_sleq, ev_slss, ev_not, ev_min, ev_max, asNat_nat, asNat_zero, asNat_one, asNat_two, asNat_three, vb_len, List.length_cons, List.length_nil, Nat.reduceAdd, Nat.reduceLeDiff, Nat.reduceMul, Int.reduceEq, Int.reduceLT, Int.reduceLE, Int.reduceNeg, Int.reduceAdd, Int.reduceSub, Nat.reduceLT, decide_true, decide_false, not_true_eq_false, not_false_eq_true, and_self, and_true, true_and, storeA, List.take_zero, List.drop_succ_cons, List.drop_zero, List.nil_append, List.append_nil, List.take_succ_cons, List.cons_append, cut_cons, cut_zero, cut_skip, tAt, hHide, hAt, upsAt, List.contains_cons, List.contains_nil, Nat.reduceBEq, Bool.or_true, Bool.true_or, Bool.or_false, Bool.false_or, Bool.or_self, Bool.and_true, Bool.true_and, Bool.and_false, Bool.false_and, beq_self_eq_true (α := Nat), Option.some_beq_some, Option.none_beq_some, Option.some_beq_none, Bool.false_eq_true, List.all_nil, touch, touchB, Nat.sub_self, List.range'_zero, Nat.add_sub_cancel_left, List.range'_one]
                · simp only [vop, val, argsT, upd_ap, Nat.reduceEqDiff, if_true, if_false, ite_true, ite_false, reduceIte, loadAt, loadA, AV.cells, AV.one, List.all_cons, List.all_nil, ofV, ofCell, plain, List.getElem?_cons_zero, List.getElem?_cons_succ, List.getElem?_toArray, Option.getD_some, Bool.not_true, Bool.not_false, Bool.false_eq_true, Bool.and_true, Bool.true_and, Bool.and_self, Nat.zero_add, Option.map_some, Option.bind_some, List.map_cons, List.map_nil, ev_add, ev_sub, ev_mul, ev_lss, ev_leq, ev_gtr, ev_geq, ev_eql, ev_neq, ev_seql, ev_sneq, ev_sleq, ev_slss, ev_not, ev_min, ev_max, asNat_nat, asNat_zero, asNat_one, asNat_two, asNat_three, vb_len, List.length_cons, List.length_nil, Nat.reduceAdd, Nat.reduceLeDiff, Nat.reduceMul, Int.reduceEq, Int.reduceLT, Int.reduceLE, Int.reduceNeg, Int.reduceAdd, Int.reduceSub, Nat.reduceLT, decide_true, decide_false, not_true_eq_false, not_false_eq_true, and_self, and_true, true_and, storeA, List.take_zero, List.drop_succ_cons, List.drop_zero, List.nil_append, List.append_nil, List.take_succ_cons, List.cons_append, cut_cons, cut_zero, cut_skip, tAt, hHide, hAt, upsAt, List.contains_cons, List.contains_nil, Nat.reduceBEq, Bool.or_true, Bool.true_or, Bool.or_false, Bool.false_or, Bool.or_self, Bool.and_true, Bool.true_and, Bool.and_false, Bool.false_and, beq_self_eq_true (α := Nat), Option.some_beq_some, Option.none_beq_some, Option.some_beq_none, Bool.false_eq_true, List.all_nil, touch, touchB, Nat.sub_self, List.range'_zero, Nat.add_sub_cancel_left, List.range'_one]
                · rw [hsn]
                  exact .inr ⟨by simp, n + 1, by simp only [vop, val, argsT, upd_ap, Nat.reduceEqDiff, if_true, if_false, ite_true, ite_false, reduceIte, loadAt, loadA, AV.cells, AV.one, List.all_cons, List.all_nil, ofV, ofCell, plain, List.getElem?_cons_zero, List.getElem?_cons_succ, List.getElem?_toArray, Option.getD_some, Bool.not_true, Bool.not_false, Bool.false_eq_true, Bool.and_true, Bool.true_and, Bool.and_self, Nat.zero_add, Option.map_some, Option.bind_some, List.map_cons, List.map_nil, ev_add, ev_sub, ev_mul, ev_lss, ev_leq, ev_gtr, ev_geq, ev_eql, ev_neq, ev_seql, ev_sneq, ev_sleq, ev_slss, ev_not, ev_min, ev_max, asNat_nat, asNat_zero, asNat_one, asNat_two, asNat_three, vb_len, List.length_cons, List.length_nil, Nat.reduceAdd, Nat.reduceLeDiff, Nat.reduceMul, Int.reduceEq, Int.reduceLT, Int.reduceLE, Int.reduceNeg, Int.reduceAdd, Int.reduceSub, Nat.reduceLT, decide_true, decide_false, not_true_eq_false, not_false_eq_true, and_self, and_true, true_and, storeA, List.take_zero, List.drop_succ_cons, List.drop_zero, List.nil_append, List.append_nil, List.take_succ_cons, List.cons_append, cut_cons, cut_zero, cut_skip, tAt, hHide, hAt, upsAt, List.contains_cons, List.contains_nil, Nat.reduceBEq, Bool.or_true, Bool.true_or, Bool.or_false, Bool.false_or, Bool.or_self, Bool.and_true, Bool.true_and, Bool.and_false, Bool.false_and, beq_self_eq_true (α := Nat), Option.some_beq_some, Option.none_beq_some, Option.some_beq_none, Bool.false_eq_true, List.all_nil, touch, touchB, Nat.sub_self, List.range'_zero, Nat.add_sub_cancel_left, List.range'_one, List.length_append], by simp only [vop, val, argsT, upd_ap, Nat.reduceEqDiff, if_true, if_false, ite_true, ite_false, reduceIte, loadAt, loadA, AV.cells, AV.one, List.all_cons, List.all_nil, ofV, ofCell, plain, List.getElem?_cons_zero, List.getElem?_cons_succ, List.getElem?_toArray, Option.getD_some, Bool.not_true, Bool.not_false, Bool.false_eq_true, Bool.and_true, Bool.true_and, Bool.and_self, Nat.zero_add, Option.map_some, Option.bind_some, List.map_cons, List.map_nil, ev_add, ev_sub, ev_mul, ev_lss, ev_leq, ev_gtr, ev_geq, ev_eql, ev_neq, ev_seql, ev_sneq, ev_sleq, ev_slss, ev_not, ev_min, ev_max, asNat_nat, asNat_zero, asNat_one, asNat_two, asNat_three, vb_len, List.length_cons, List.length_nil, Nat.reduceAdd, Nat.reduceLeDiff, Nat.reduceMul, Int.reduceEq, Int.reduceLT, Int.reduceLE, Int.reduceNeg, Int.reduceAdd, Int.reduceSub, Nat.reduceLT, decide_true, decide_false, not_true_eq_false, not_false_eq_true, and_self, and_true, true_and, storeA, List.take_zero, List.drop_succ_cons, List.drop_zero, List.nil_append, List.append_nil, List.take_succ_cons, List.cons_append, cut_cons, cut_zero, cut_skip, tAt, hHide, hAt, upsAt, List.contains_cons, List.contains_nil, Nat.reduceBEq, Bool.or_true, Bool.true_or, Bool.or_false, Bool.false_or, Bool.or_self, Bool.and_true, Bool.true_and, Bool.and_false, Bool.false_and, beq_self_eq_true (α := Nat), Option.some_beq_some, Option.none_beq_some, Option.some_beq_none, Bool.false_eq_true, List.all_nil, touch, touchB, Nat.sub_self, List.range'_zero, Nat.add_sub_cancel_left, List.range'_one], by simp⟩
          · have hqp : (0 : Int) < (q.length : Int) := by
              have := List.length_pos_iff.2 hqe
              omega
            have hnp := nv_pos hqL hqt hqe
            have hVp : 0 < V := by
              have h1 : 0 < (nv q).toNat := by omega
              have h2 : 0 < 10 ^ k := Nat.pow_pos (by omega)
              have := Nat.mul_pos h1 h2
              omega
            have hl1 : (u8s ds).length * 1 ≤ (u8s ds).length := by omega
            have hl2 : ((u8s ds).length + 1) * 1 ≤ 140737488355328 := by rw [u8s_len]; omega
            have hl3 : (u8s ds).length + 1 ≤ 140737488355328 := by rw [u8s_len]; omega
            have hcut0 : cut (u8s ds) 0 ((u8s ds).length * 1) = u8s ds := by
              simp only [cut, List.drop_zero, Nat.mul_one]
              rw [List.take_of_length_le (by simp)]
            have hsn : u8s (ds ++ [r % 10]) = u8s ds ++ [.sc (.int .u8 (48 + ((r % 10 : Nat) : Int)))] := u8s_app ds [r % 10]
            rcases ho with ⟨hcs, h5⟩ | ⟨hcs, b, h5, hbk, hbn⟩
            · refine wB1 (wa h5 (wa h7 (wa h8 (wa h9 (wa hlt (wa hqp (wa w1 (wa w2 (wa w3 (wa w4 (wa w5 (wa @bs8 @Nat.one_ne_zero)))))))))))) ?_
              refine ⟨9 - (i + 1), by omega, ds ++ [r % 10], i + 1, r / 10, (nv q).toNat * 10 ^ (9 - (i + 1)) + r / 10, rfl, by omega, hr', rfl, step hVp, ?_, ?_, ?_, ?_⟩
              · simp only [vop, val, argsT, upd_ap, Nat.reduceEqDiff, if_true, if_false, ite_true, ite_false, reduceIte, loadAt, loadA, AV.cells, AV.one, List.all_cons, List.all_nil, ofV, ofCell, plain, List.getElem?_cons_zero, List.getElem?_cons_succ, List.getElem?_toArray, Option.getD_some, Bool.not_true, Bool.not_false, Bool.false_eq_true, Bool.and_true, Bool.true_and, Bool.and_self, Nat.zero_add, Option.map_some, Option.bind_some, List.map_cons, List.map_nil, ev_add, ev_sub, ev_mul, ev_lss, ev_leq, ev_gtr, ev_geq, ev_eql, ev_neq, ev_seql, ev_sneq, ev_sleq, ev_slss, ev_not, ev_min, ev_max, asNat_nat, asNat_zero, asNat_one, asNat_two, asNat_three, vb_len, List.length_cons, List.length_nil, Nat.reduceAdd, Nat.reduceLeDiff, Nat.reduceMul, Int.reduceEq, Int.reduceLT, Int.reduceLE, Int.reduceNeg, Int.reduceAdd, Int.reduceSub, Nat.reduceLT, decide_true, decide_false, not_true_eq_false, not_false_eq_true, and_self, and_true, true_and, storeA, List.take_zero, List.drop_succ_cons, List.drop_zero, List.nil_append, List.append_nil, List.take_succ_cons, List.cons_append, cut_cons, cut_zero, cut_skip, tAt, hHide, hAt, upsAt, List.contains_cons, List.contains_nil, Nat.reduceBEq, Bool.or_true, Bool.true_or, Bool.or_false, Bool.false_or, Bool.or_self, Bool.and_true, Bool.true_and, Bool.and_false, Bool.false_and, beq_self_eq_true (α := Nat), Option.some_beq_some, Option.none_beq_some, Option.some_beq_none, Bool.false_eq_true, List.all_nil, touch, touchB, Nat.sub_self, List.range'_zero, Nat.add_sub_cancel_left, List.range'_one, h7, List.length_nil]
              · simp only [vop, val, argsT, upd_ap, Nat.reduceEqDiff, if_true, if_false, ite_true, ite_false, reduceIte, loadAt, loadA, AV.cells, AV.one, List.all_cons, List.all_nil, ofV, ofCell, plain, List.getElem?_cons_zero, List.getElem?_cons_succ, List.getElem?_toArray, Option.getD_some, Bool.not_true, Bool.not_false, Bool.false_eq_true, Bool.and_true, Bool.true_and, Bool.and_self, Nat.zero_add, Option.map_some, Option.bind_some, List.map_cons, List.map_nil, ev_add, ev_sub, ev_mul, ev_lss, ev_leq, ev_gtr, ev_geq, ev_eql, ev_neq, ev_seql, ev_sneq, ev_sleq, ev_slss, ev_not, ev_min, ev_max, asNat_nat, asNat_zero, asNat_one, asNat_two, asNat_three, vb_len, List.length_cons, List.length_nil, Nat.reduceAdd, Nat.reduceLeDiff, Nat.reduceMul, Int.reduceEq, Int.reduceLT, Int.reduceLE, Int.reduceNeg, Int.reduceAdd, Int.reduceSub, Nat.reduceLT, decide_true, decide_false, not_true_eq_false, not_false_eq_true, and_self, and_true, true_and, storeA, List.take_zero, List.drop_succ_cons, List.drop_zero, List.nil_append, List.append_nil, List.take_succ_cons, List.cons_append, cut_cons, cut_zero, cut_skip, tAt, hHide, hAt, upsAt, List.contains_cons, List.contains_nil, Nat.reduceBEq, Bool.or_true, Bool.true_or, Bool.or_false, Bool.false_or, Bool.or_self, Bool.and_true, Bool.true_and, Bool.and_false, Bool.false_and, beq_self_eq_true (α := Nat), Option.some_beq_some, Option.none_beq_some, Option.some_beq_none, Bool.false_eq_true, List.all_nil, touch, touchB, Nat.sub_self, List.range'_zero, Nat.add_sub_cancel_left, List.range'_one]
              · simp only [vop, val, argsT, upd_ap, Nat.reduceEqDiff, if_true, if_false, ite_true, ite_false, reduceIte, loadAt, loadA, AV.cells, AV.one, List.all_cons, List.all_nil, ofV, ofCell, plain, List.getElem?_cons_zero, List.getElem?_cons_succ, List.getElem?_toArray, Option.getD_some, Bool.not_true, Bool.not_false, Bool.false_eq_true, Bool.and_true, Bool.true_and, Bool.and_self, Nat.zero_add, Option.map_some, Option.bind_some, List.map_cons, List.map_nil, ev_add, ev_sub, ev_mul, ev_lss, ev_leq, ev_gtr, ev_geq, ev_eql, ev_neq, ev_seql, ev_sneq, ev_sleq, ev_slss, ev_not, ev_min, ev_max, asNat_nat, asNat_zero, asNat_one, asNat_two, asNat_three, vb_len, List.length_cons, List.length_nil, Nat.reduceAdd, Nat.reduceLeDiff, Nat.reduceMul, Int.reduceEq, Int.reduceLT, Int.reduceLE, Int.reduceNeg, Int.reduceAdd, Int.reduceSub, Nat.reduceLT, decide_true, decide_false, not_true_eq_false, not_false_eq_true, and_self, and_true, true_and, storeA, List.take_zero, List.drop_succ_cons, List.drop_zero, List.nil_append, List.append_nil, List.take_succ_cons, List.cons_append, cut_cons, cut_zero, cut_skip, tAt, hHide, hAt, upsAt, List.contains_cons, List.contains_nil, Nat.reduceBEq, Bool.or_true, Bool.true_or, Bool.or_false, Bool.false_or, Bool.or_self, Bool.and_true, Bool.true_and, Bool.and_false, Bool.false_and, beq_self_eq_true (α := Nat), Option.some_beq_some, Option.none_beq_some, Option.some_beq_none, Bool.false_eq_true, List.all_nil, touch, touchB, Nat.sub_self, List.range'_zero, Nat.add_sub_cancel_left, List.range'_one]
              · rw [hsn, hcs]
                exact .inr ⟨by simp, n + 1, by simp only [vop, val, argsT, upd_ap, Nat.reduceEqDiff, if_true, if_false, ite_true, ite_false, reduceIte, loadAt, loadA, AV.cells, AV.one, List.all_cons, List.all_nil, ofV, ofCell, plain, List.getElem?_cons_zero, List.getElem?_cons_succ, List.getElem?_toArray, Option.getD_some, Bool.not_true, Bool.not_false, Bool.false_eq_true, Bool.and_true, Bool.true_and, Bool.and_self, Nat.zero_add, Option.map_some, Option.bind_some, List.map_cons, List.map_nil, ev_add, ev_sub, ev_mul, ev_lss, ev_leq, ev_gtr, ev_geq, ev_eql, ev_neq, ev_seql, ev_sneq, ev_sleq, ev_slss, ev_not, ev_min, ev_max, asNat_nat, asNat_zero, asNat_one, asNat_two, asNat_three, vb_len, List.length_cons, List.length_nil, Nat.reduceAdd, Nat.reduceLeDiff, Nat.reduceMul, Int.reduceEq, Int.reduceLT, Int.reduceLE, Int.reduceNeg, Int.reduceAdd, Int.reduceSub, Nat.reduceLT, decide_true, decide_false, not_true_eq_false, not_false_eq_true, and_self, and_true, true_and, storeA, List.take_zero, List.drop_succ_cons, List.drop_zero, List.nil_append, List.append_nil, List.take_succ_cons, List.cons_append, cut_cons, cut_zero, cut_skip, tAt, hHide, hAt, upsAt, List.contains_cons, List.contains_nil, Nat.reduceBEq, Bool.or_true, Bool.true_or, Bool.or_false, Bool.false_or, Bool.or_self, Bool.and_true, Bool.true_and, Bool.and_false, Bool.false_and, beq_self_eq_true (α := Nat), Option.some_beq_some, Option.none_beq_some, Option.some_beq_none, Bool.false_eq_true, List.all_nil, touch, touchB, Nat.sub_self, List.range'_zero, Nat.add_sub_cancel_left, List.range'_one], by simp only [vop, val, argsT, upd_ap, Nat.reduceEqDiff, if_true, if_false, ite_true, ite_false, reduceIte, loadAt, loadA, AV.cells, AV.one, List.all_cons, List.all_nil, ofV, ofCell, plain, List.getElem?_cons_zero, List.getElem?_cons_succ, List.getElem?_toArray, Option.getD_some, Bool.not_true, Bool.not_false, Bool.false_eq_true, Bool.and_true, Bool.true_and, Bool.and_self, Nat.zero_add, Option.map_some, Option.bind_some, List.map_cons, List.map_nil, ev_add, ev_sub, ev_mul, ev_lss, ev_leq, ev_gtr, ev_geq, ev_eql, ev_neq, ev_seql, ev_sneq, ev_sleq, ev_slss, ev_not, ev_min, ev_max, asNat_nat, asNat_zero, asNat_one, asNat_two, asNat_three, vb_len, List.length_cons, List.length_nil, Nat.reduceAdd, Nat.reduceLeDiff, Nat.reduceMul, Int.reduceEq, Int.reduceLT, Int.reduceLE, Int.reduceNeg, Int.reduceAdd, Int.reduceSub, Nat.reduceLT, decide_true, decide_false, not_true_eq_false, not_false_eq_true, and_self, and_true, true_and, storeA, List.take_zero, List.drop_succ_cons, List.drop_zero, List.nil_append, List.append_nil, List.take_succ_cons, List.cons_append, cut_cons, cut_zero, cut_skip, tAt, hHide, hAt, upsAt, List.contains_cons, List.contains_nil, Nat.reduceBEq, Bool.or_true, Bool.true_or, Bool.or_false, Bool.false_or, Bool.or_self, Bool.and_true, Bool.true_and, Bool.and_false, Bool.false_and, beq_self_eq_true (α := Nat), Option.some_beq_some, Option.none_beq_some, Option.some_beq_none, Bool.false_eq_true, List.all_nil, touch, touchB, Nat.sub_self, List.range'_zero, Nat.add_sub_cancel_left, List.range'_one], by simp⟩
            · have hbne : ¬ b = n := by omega
              have hbne1 : ¬ n + 1 = b := by omega
              refine wB1 (wa h5 (wa h7 (wa h8 (wa h9 (wa hlt (wa hqp (wa w1 (wa w2 (wa w3 (wa w4 (wa w5 (wa @bs8 (wa @Nat.one_ne_zero (wa hbk (wa hbne (wa hl1 (wa hl2 (wa hl3 hcut0)))))))))))))))))) ?_
              refine ⟨9 - (i + 1), by omega, ds ++ [r % 10], i + 1, r / 10, (nv q).toNat * 10 ^ (9 - (i + 1)) + r / 10, rfl, by omega, hr', rfl, step hVp, ?_, ?_, ?_, ?_⟩
              · simp only [vop, val, argsT, upd_ap, Nat.reduceEqDiff, if_true, if_false, ite_true, ite_false, reduceIte, loadAt, loadA, AV.cells, AV.one, List.all_cons, List.all_nil, ofV, ofCell, plain, List.getElem?_cons_zero, List.getElem?_cons_succ, List.getElem?_toArray, Option.getD_some, Bool.not_true, Bool.not_false, Bool.false_eq_true, Bool.and_true, Bool.true_and, Bool.and_self, Nat.zero_add, Option.map_some, Option.bind_some, List.map_cons, List.map_nil, ev_add, ev_sub, ev_mul, ev_lss, ev_leq, ev_gtr, ev_geq, ev_eql, ev_neq, ev_seql, ev_sneq, ev_sleq, ev_slss, ev_not, ev_min, ev_max, asNat_nat, asNat_zero, asNat_one, asNat_two, asNat_three, vb_len, List.length_cons, List.length_nil, Nat.reduceAdd, Nat.reduceLeDiff, Nat.reduceMul, Int.reduceEq, Int.reduceLT, Int.reduceLE, Int.reduceNeg, Int.reduceAdd, Int.reduceSub, Nat.reduceLT, decide_true, decide_false, not_true_eq_false, not_false_eq_true, and_self, and_true, true_and, storeA, List.take_zero, List.drop_succ_cons, List.drop_zero, List.nil_append, List.append_nil, List.take_succ_cons, List.cons_append, cut_cons, cut_zero, cut_skip, tAt, hHide, hAt, upsAt, List.contains_cons, List.contains_nil, Nat.reduceBEq, Bool.or_true, Bool.true_or, Bool.or_false, Bool.false_or, Bool.or_self, Bool.and_true, Bool.true_and, Bool.and_false, Bool.false_and, beq_self_eq_true (α := Nat), Option.some_beq_some, Option.none_beq_some, Option.some_beq_none, Bool.false_eq_true, List.all_nil, touch, touchB, Nat.sub_self, List.range'_zero, Nat.add_sub_cancel_left, List.range'_one, h7, List.length_nil]
              · simp only [vop, val, argsT, upd_ap, Nat.reduceEqDiff, if_true, if_false, ite_true, ite_false, reduceIte, loadAt, loadA, AV.cells, AV.one, List.all_cons, List.all_nil, ofV, ofCell, plain, List.getElem?_cons_zero, List.getElem?_cons_succ, List.getElem?_toArray, Option.getD_some, Bool.not_true, Bool.not_false, Bool.false_eq_true, Bool.and_true, Bool.true_and, Bool.and_self, Nat.zero_add, Option.map_some, Option.bind_some, List.map_cons, List.map_nil, ev_add, ev_sub, ev_mul, ev_lss, ev_leq, ev_gtr, ev_geq, ev_eql, ev_neq, ev_seql, ev_sneq, ev_sleq, ev_slss, ev_not, ev_min, ev_max, asNat_nat, asNat_zero, asNat_one, asNat_two, asNat_three, vb_len, List.length_cons, List.length_nil, Nat.reduceAdd, Nat.reduceLeDiff, Nat.reduceMul, Int.reduceEq, Int.reduceLT, Int.reduceLE, Int.reduceNeg, Int.reduceAdd, Int.reduceSub, Nat.reduceLT, decide_true, decide_false, not_true_eq_false, not_false_eq_true, and_self, and_true, true_and, storeA, List.take_zero, List.drop_succ_cons, List.drop_zero, List.nil_append, List.append_nil, List.take_succ_cons, List.cons_append, cut_cons, cut_zero, cut_skip, tAt, hHide, hAt, upsAt, List.contains_cons, List.contains_nil, Nat.reduceBEq, Bool.or_true, Bool.true_or, Bool.or_false, Bool.false_or, Bool.or_self, Bool.and_true, Bool.true_and, Bool.and_false, Bool.false_and, beq_self_eq_true (α := Nat), Option.some_beq_some, Option.none_beq_some, Option.some_beq_none, Bool.false_eq_true, List.all_nil, touch, touchB, Nat.sub_self, List.range'_zero, Nat.add_sub_cancel_left, List.range'_one]
              · simp only [vop, val, argsT, upd_ap, Nat.reduceEqDiff, if_true, if_false, ite_true, ite_false, reduceIte, loadAt, loadA, AV.cells, AV.one, List.all_cons, List.all_nil, ofV, ofCell, plain, List.getElem?_cons_zero, List.getElem?_cons_succ, List.getElem?_toArray, Option.getD_some, Bool.not_true, Bool.not_false, Bool.false_eq_true, Bool.and_true, Bool.true_and, Bool.and_self, Nat.zero_add, Option.map_some, Option.bind_some, List.map_cons, List.map_nil, ev_add, ev_sub, ev_mul, ev_lss, ev_leq, ev_gtr, ev_geq, ev_eql, ev_neq, ev_seql, ev_sneq, ev_sleq, ev_slss, ev_not, ev_min, ev_max, asNat_nat, asNat_zero, asNat_one, asNat_two, asNat_three, vb_len, List.length_cons, List.length_nil, Nat.reduceAdd, Nat.reduceLeDiff, Nat.reduceMul, Int.reduceEq, Int.reduceLT, Int.reduceLE, Int.reduceNeg, Int.reduceAdd, Int.reduceSub, Nat.reduceLT, decide_true, decide_false, not_true_eq_false, not_false_eq_true, and_self, and_true, true_and, storeA, List.take_zero, List.drop_succ_cons, List.drop_zero, List.nil_append, List.append_nil, List.take_succ_cons, List.cons_append, cut_cons, cut_zero, cut_skip, tAt, hHide, hAt, upsAt, List.contains_cons, List.contains_nil, Nat.reduceBEq, Bool.or_true, Bool.true_or, Bool.or_false, Bool.false_or, Bool.or_self, Bool.and_true, Bool.true_and, Bool.and_false, Bool.false_and, beq_self_eq_true (α := Nat), Option.some_beq_some, Option.none_beq_some, Option.some_beq_none, Bool.false_eq_true, List.all_nil, touch, touchB, Nat.sub_self, List.range'_zero, Nat.add_sub_cancel_left, List.range'_one]
              · rw [hsn]
                exact .inr ⟨by simp, n + 1, by simp only [vop, val, argsT, upd_ap, Nat.reduceEqDiff, if_true, if_false, ite_true, ite_false, reduceIte, loadAt, loadA, AV.cells, AV.one, List.all_cons, List.all_nil, ofV, ofCell, plain, List.getElem?_cons_zero, List.getElem?_cons_succ, List.getElem?_toArray, Option.getD_some, Bool.not_true, Bool.not_false, Bool.false_eq_true, Bool.and_true, Bool.true_and, Bool.and_self, Nat.zero_add, Option.map_some, Option.bind_some, List.map_cons, List.map_nil, ev_add, ev_sub, ev_mul, ev_lss, ev_leq, ev_gtr, ev_geq, ev_eql, ev_neq, ev_seql, ev_sneq, ev_sleq, ev_slss, ev_not, ev_min, ev_max, asNat_nat, asNat_zero, asNat_one, asNat_two, asNat_three, vb_len, List.length_cons, List.length_nil, Nat.reduceAdd, Nat.reduceLeDiff, Nat.reduceMul, Int.reduceEq, Int.reduceLT, Int.reduceLE, Int.reduceNeg, Int.reduceAdd, Int.reduceSub, Nat.reduceLT, decide_true, decide_false, not_true_eq_false, not_false_eq_true, and_self, and_true, true_and, storeA, List.take_zero, List.drop_succ_cons, List.drop_zero, List.nil_append, List.append_nil, List.take_succ_cons, List.cons_append, cut_cons, cut_zero, cut_skip, tAt, hHide, hAt, upsAt, List.contains_cons, List.contains_nil, Nat.reduceBEq, Bool.or_true, Bool.true_or, Bool.or_false, Bool.false_or, Bool.or_self, Bool.and_true, Bool.true_and, Bool.and_false, Bool.false_and, beq_self_eq_true (α := Nat), Option.some_beq_some, Option.none_beq_some, Option.some_beq_none, Bool.false_eq_true, List.all_nil, touch, touchB, Nat.sub_self, List.range'_zero, Nat.add_sub_cancel_left, List.range'_one, List.length_append], by simp only [vop, val, argsT, upd_ap, Nat.reduceEqDiff, if_true, if_false, ite_true, ite_false, reduceIte, loadAt, loadA, AV.cells, AV.one, List.all_cons, List.all_nil, ofV, ofCell, plain, List.getElem?_cons_zero, List.getElem?_cons_succ, List.getElem?_toArray, Option.getD_some, Bool.not_true, Bool.not_false, Bool.false_eq_true, Bool.and_true, Bool.true_and, Bool.and_self, Nat.zero_add, Option.map_some, Option.bind_some, List.map_cons, List.map_nil, ev_add, ev_sub, ev_mul, ev_lss, ev_leq, ev_gtr, ev_geq, ev_eql, ev_neq, ev_seql, ev_sneq, ev_sleq, ev_slss, ev_not, ev_min, ev_max, asNat_nat, asNat_zero, asNat_one, asNat_two, asNat_three, vb_len, List.length_cons, List.length_nil, Nat.reduceAdd, Nat.reduceLeDiff, Nat.reduceMul, Int.reduceEq, Int.reduceLT, Int.reduceLE, Int.reduceNeg, Int.reduceAdd, Int.reduceSub, Nat.reduceLT, decide_true, decide_false, not_true_eq_false, not_false_eq_true, and_self, and_true, true_and, storeA, List.take_zero, List.drop_succ_cons, List.drop_zero, List.nil_append, List.append_nil, List.take_succ_cons, List.cons_append, cut_cons, cut_zero, cut_skip, tAt, hHide, hAt, upsAt, List.contains_cons, List.contains_nil, Nat.reduceBEq, Bool.or_true, Bool.true_or, Bool.or_false, Bool.false_or, Bool.or_self, Bool.and_true, Bool.true_and, Bool.and_false, Bool.false_and, beq_self_eq_true (α := Nat), Option.some_beq_some, Option.none_beq_some, Option.some_beq_none, Bool.false_eq_true, List.all_nil, touch, touchB, Nat.sub_self, List.range'_zero, Nat.add_sub_cancel_left, List.range'_one], by simp⟩
      · simp
        omega
      · rw [hqv]
        simp
        omega
      · simp only [vop, val, argsT, upd_ap, Nat.reduceEqDiff, if_true, if_false, ite_true, ite_false, reduceIte, loadAt, loadA, AV.cells, AV.one, List.all_cons, List.all_nil, ofV, ofCell, plain, List.getElem?_cons_zero, List.getElem?_cons_succ, List.getElem?_toArray, Option.getD_some, Bool.not_true, Bool.not_false, Bool.false_eq_true, Bool.and_true, Bool.true_and, Bool.and_self, Nat.zero_add, Option.map_some, Option.bind_some, List.map_cons, List.map_nil, ev_add, ev_sub, ev_mul, ev_lss, ev_leq, ev_gtr, ev_geq, ev_eql, ev_neq, ev_seql, ev_sneq, ev_sleq, ev_slss, ev_not, ev_min, ev_max, asNat_nat, asNat_zero, asNat_one, asNat_two, asNat_three, vb_len, List.length_cons, List.length_nil, Nat.reduceAdd, Nat.reduceLeDiff, Nat.reduceMul, Int.reduceEq, Int.reduceLT, Int.reduceLE, Int.reduceNeg, Int.reduceAdd, Int.reduceSub, Nat.reduceLT, decide_true, decide_false, not_true_eq_false, not_false_eq_true, and_self, and_true, true_and, storeA, List.take_zero, List.drop_succ_cons, List.drop_zero, List.nil_append, List.append_nil, List.take_succ_cons, List.cons_append, cut_cons, cut_zero, cut_skip, tAt, hHide, hAt, upsAt, List.contains_cons, List.contains_nil, Nat.reduceBEq, Bool.or_true, Bool.true_or, Bool.or_false, Bool.false_or, Bool.or_self, Bool.and_true, Bool.true_and, Bool.and_false, Bool.false_and, beq_self_eq_true (α := Nat), Option.some_beq_some, Option.none_beq_some, Option.some_beq_none, Bool.false_eq_true, List.all_nil, touch, touchB, Nat.sub_self, List.range'_zero, Nat.add_sub_cancel_left, List.range'_one]
      · simp only [vop, val, argsT, upd_ap, Nat.reduceEqDiff, if_true, if_false, ite_true, ite_false, reduceIte, loadAt, loadA, AV.cells, AV.one, List.all_cons, List.all_nil, ofV, ofCell, plain, List.getElem?_cons_zero, List.getElem?_cons_succ, List.getElem?_toArray, Option.getD_some, Bool.not_true, Bool.not_false, Bool.false_eq_true, Bool.and_true, Bool.true_and, Bool.and_self, Nat.zero_add, Option.map_some, Option.bind_some, List.map_cons, List.map_nil, ev_add, ev_sub, ev_mul, ev_lss, ev_leq, ev_gtr, ev_geq, ev_eql, ev_neq, ev_seql, ev_sneq, ev_sleq, ev_slss, ev_not, ev_min, ev_max, asNat_nat, asNat_zero, asNat_one, asNat_two, asNat_three, vb_len, List.length_cons, List.length_nil, Nat.reduceAdd, Nat.reduceLeDiff, Nat.reduceMul, Int.reduceEq, Int.reduceLT, Int.reduceLE, Int.reduceNeg, Int.reduceAdd, Int.reduceSub, Nat.reduceLT, decide_true, decide_false, not_true_eq_false, not_false_eq_true, and_self, and_true, true_and, storeA, List.take_zero, List.drop_succ_cons, List.drop_zero, List.nil_append, List.append_nil, List.take_succ_cons, List.cons_append, cut_cons, cut_zero, cut_skip, tAt, hHide, hAt, upsAt, List.contains_cons, List.contains_nil, Nat.reduceBEq, Bool.or_true, Bool.true_or, Bool.or_false, Bool.false_or, Bool.or_self, Bool.and_true, Bool.true_and, Bool.and_false, Bool.false_and, beq_self_eq_true (α := Nat), Option.some_beq_some, Option.none_beq_some, Option.some_beq_none, Bool.false_eq_true, List.all_nil, touch, touchB, Nat.sub_self, List.range'_zero, Nat.add_sub_cancel_left, List.range'_one]
        rw [Int.toNat_of_nonneg (by omega)]
      · simp only [vop, val, argsT, upd_ap, Nat.reduceEqDiff, if_true, if_false, ite_true, ite_false, reduceIte, loadAt, loadA, AV.cells, AV.one, List.all_cons, List.all_nil, ofV, ofCell, plain, List.getElem?_cons_zero, List.getElem?_cons_succ, List.getElem?_toArray, Option.getD_some, Bool.not_true, Bool.not_false, Bool.false_eq_true, Bool.and_true, Bool.true_and, Bool.and_self, Nat.zero_add, Option.map_some, Option.bind_some, List.map_cons, List.map_nil, ev_add, ev_sub, ev_mul, ev_lss, ev_leq, ev_gtr, ev_geq, ev_eql, ev_neq, ev_seql, ev_sneq, ev_sleq, ev_slss, ev_not, ev_min, ev_max, asNat_nat, asNat_zero, asNat_one, asNat_two, asNat_three, vb_len, List.length_cons, List.length_nil, Nat.reduceAdd, Nat.reduceLeDiff, Nat.reduceMul, Int.reduceEq, Int.reduceLT, Int.reduceLE, Int.reduceNeg, Int.reduceAdd, Int.reduceSub, Nat.reduceLT, decide_true, decide_false, not_true_eq_false, not_false_eq_true, and_self, and_true, true_and, storeA, List.take_zero, List.drop_succ_cons, List.drop_zero, List.nil_append, List.append_nil, List.take_succ_cons, List.cons_append, cut_cons, cut_zero, cut_skip, tAt, hHide, hAt, upsAt, List.contains_cons, List.contains_nil, Nat.reduceBEq, Bool.or_true, Bool.true_or, Bool.or_false, Bool.false_or, Bool.or_self, Bool.and_true, Bool.true_and, Bool.and_false, Bool.false_and, beq_self_eq_true (α := Nat), Option.some_beq_some, Option.none_beq_some, Option.some_beq_none, Bool.false_eq_true, List.all_nil, touch, touchB, Nat.sub_self, List.range'_zero, Nat.add_sub_cancel_left, List.range'_one]
        rfl
      · simp only [vop, val, argsT, upd_ap, Nat.reduceEqDiff, if_true, if_false, ite_true, ite_false, reduceIte, loadAt, loadA, AV.cells, AV.one, List.all_cons, List.all_nil, ofV, ofCell, plain, List.getElem?_cons_zero, List.getElem?_cons_succ, List.getElem?_toArray, Option.getD_some, Bool.not_true, Bool.not_false, Bool.false_eq_true, Bool.and_true, Bool.true_and, Bool.and_self, Nat.zero_add, Option.map_some, Option.bind_some, List.map_cons, List.map_nil, ev_add, ev_sub, ev_mul, ev_lss, ev_leq, ev_gtr, ev_geq, ev_eql, ev_neq, ev_seql, ev_sneq, ev_sleq, ev_slss, ev_not, ev_min, ev_max, asNat_nat, asNat_zero, asNat_one, asNat_two, asNat_three, vb_len, List.length_cons, List.length_nil, Nat.reduceAdd, Nat.reduceLeDiff, Nat.reduceMul, Int.reduceEq, Int.reduceLT, Int.reduceLE, Int.reduceNeg, Int.reduceAdd, Int.reduceSub, Nat.reduceLT, decide_true, decide_false, not_true_eq_false, not_false_eq_true, and_self, and_true, true_and, storeA, List.take_zero, List.drop_succ_cons, List.drop_zero, List.nil_append, List.append_nil, List.take_succ_cons, List.cons_append, cut_cons, cut_zero, cut_skip, tAt, hHide, hAt, upsAt, List.contains_cons, List.contains_nil, Nat.reduceBEq, Bool.or_true, Bool.true_or, Bool.or_false, Bool.false_or, Bool.or_self, Bool.and_true, Bool.true_and, Bool.and_false, Bool.false_and, beq_self_eq_true (α := Nat), Option.some_beq_some, Option.none_beq_some, Option.some_beq_none, Bool.false_eq_true, List.all_nil, touch, touchB, Nat.sub_self, List.range'_zero, Nat.add_sub_cancel_left, List.range'_one]
        exact ho
  · simp [upd_ap, argsT]
  · simp [upd_ap, argsT, OutSl, u8s]
end Go.Proofs.Bv
namespace Go.Proofs.Bv
open Go
theorem ok162 : codeOk 15 (Tryz.f162.body.getD .skip) = true := by kernel_rfl
theorem ok102 : codeOk 49 (Tryz.f102.body.getD .skip) = true := by kernel_rfl
theorem ok154 : codeOk 27 (Tryz.f154.body.getD .skip) = true := by kernel_rfl
theorem ok96 : codeOk 42 (Tryz.f96.body.getD .skip) = true := by kernel_rfl
def nDig (l : List Int) : Int := ((digs (nv l).toNat).length : Int)
theorem pc162 (G : Nat → Option (List AV)) (a : List Int) (hc : natChk a = 0) (ha : Limbs a) : Pc (Cf G) 162 [.psl (u32s a) a.length] (.sc (.int .i64 (nDig a))) := by
  have h1 := pc223 G a hc ha
  obtain ⟨ht, hl⟩ := TopOk_of_chk hc
  by_cases h0 : a = []
  · subst h0
    refine Pc_of (Gf_enter (C := Cf G) Tryz.func162 rfl ok162 (Nat.le_of_ble_eq_true rfl) ?_)
    simp only [Tryz.f162, Option.getD_some]
    refine wC1 trivial (wa h1 trivial) ?_
    simp [one1, frz_s, nDig, nv, digs_zero]
  · have hne : ¬ (a.length : Int) = 0 := by
      have := List.length_pos_iff.2 h0
      omega
    have hp := nv_pos ha ht h0
    refine Pc_of (Gf_enter (C := Cf G) Tryz.func162 rfl ok162 (Nat.le_of_ble_eq_true rfl) ?_)
    simp only [Tryz.f162, Option.getD_some]
    refine wC1 hne (wa h1 trivial) ?_
    simp only [one1, frz_s, Option.map_some, nDig]
    rw [decStr_size _ (by omega)]
def decChk (ng : Bool) (cf : List Int) (ex : Int) : Int :=
  if ¬ natChk cf = 0 ∨ 40 < (cf.length : Int) then 9
  else if (cf.length : Int) = 0 then (if ng = true ∨ ¬ ex = 0 then 9 else 0)
  else if nv cf % 10 = 0 ∨ 300 < nDig cf ∨ ex < -1000 ∨ 1000 < ex then 9 else 0
set_option maxHeartbeats 2000000 in
theorem pc102 (G : Nat → Option (List AV)) (ng : Bool) (cf : List Int) (ex : Int) (hl : cf.length ≤ 140737488355328) (ha : Limbs cf) :
    Pc (Cf G) 102 [.agg [.sc (.bool ng), .psl (u32s cf) cf.length, .sc (.int .i64 ex)]] (.sc (.int .i64 (decChk ng cf ex))) := by
  have h1 := pc160 G cf hl
  refine Pc_of (Gf_enter (C := Cf G) Tryz.func102 rfl ok102 (Nat.le_of_ble_eq_true rfl) ?_)
  simp only [Tryz.f102, Option.getD_some]
  by_cases hc : natChk cf = 0
  · have h2 := pc161 G cf hc ha
    have h3 := pc162 G cf hc ha
    (focus refine wC9 hc (wa h1 (wa h2 (wa h3 trivial))) ?_ ?_ ?_ ?_ ?_ ?_ ?_ ?_ ?_; intro hb; rotate_left; intro hb hb hb hb; rotate_left; intro hb hb hb hb; rotate_left; intro hb hb hb; rotate_left; intro hb hb hb hb hb hb; rotate_left; intro hb hb hb hb hb hb; rotate_left; intro hb hb hb hb hb; rotate_left; intro hb hb hb hb; rotate_left; intro hb hb hb; rotate_left)
    all_goals simp only [one1, frz_s, Option.map_some, decChk, hc]
    all_goals ((repeat' split) <;> first | rfl | (exfalso; omega) | (exfalso; simp_all; done) | (exfalso; simp_all; omega))
  · refine wC1 hc (wa h1 trivial) ?_
    all_goals simp only [one1, frz_s, Option.map_some, decChk, hc]
    all_goals ((repeat' split) <;> first | rfl | (exfalso; omega) | (exfalso; simp_all; done) | (exfalso; simp_all; omega))
def numOk : JV → Bool
  | .mk k ng cf ex _ _ _ => if k = 3 then decide (decChk ng cf ex = 0) else !ng && decide ((cf.length : Int) = 0) && decide (ex = 0)
set_option maxHeartbeats 2000000 in
theorem pc154 (G : Nat → Option (List AV)) : (v : JV) → Fit v → Pc (Cf G) 154 [.agg (enc v)] (.sc (.bool (numOk v)))
  | .mk k ng cf ex t l ks => fun hfit => by
    have h1 := pc102 G ng cf ex (by have := hfit.1.ncoef; omega) (fun c hc => hfit.1.coef c hc)
    refine Pc_of (Gf_enter (C := Cf G) Tryz.func154 rfl ok154 (Nat.le_of_ble_eq_true rfl) ?_)
    simp only [Tryz.f154, Option.getD_some]
    by_cases hk : k = 3
    · subst hk
      refine wC1 trivial (wa h1 trivial) ?_
      all_goals simp [one1, frz_s, numOk]
    · (focus refine wC3 hk (wa h1 trivial) ?_ ?_ ?_; intro hb hb; rotate_left; intro hb hb; rotate_left; intro hb; rotate_left)
      all_goals simp_all [one1, frz_s, numOk]
def own : JV → Int
  | .mk k ng cf ex t l ks =>
    if k < 0 ∨ 6 < k then 23
    else if ¬ texts (.mk k ng cf ex t l ks) = 0 then texts (.mk k ng cf ex t l ks)
    else if 4096 < max (l.length : Int) (ks.length : Int) then 5
    else if numOk (.mk k ng cf ex t l ks) = false ∨ used (.mk k ng cf ex t l ks) = false ∨ rises ks = false then 9
    else 0
set_option maxHeartbeats 2000000 in
theorem pc96 (G : Nat → Option (List AV)) : (v : JV) → Fit v → Pc (Cf G) 96 [.agg (enc v)] (.sc (.int .i64 (own v)))
  | .mk k ng cf ex t l ks => fun hfit => by
    have h1 := pc153 G (.mk k ng cf ex t l ks) hfit
    have h2 := pc154 G (.mk k ng cf ex t l ks) hfit
    have h3 := pc155 G (.mk k ng cf ex t l ks) hfit
    have h4 := pc156 G ks (by have := hfit.1.nkeys; omega)
    simp only [enc] at h1 h2 h3
    simp only [own]
    generalize texts (.mk k ng cf ex t l ks) = a1 at *
    generalize numOk (.mk k ng cf ex t l ks) = a2 at *
    generalize used (.mk k ng cf ex t l ks) = a3 at *
    generalize rises ks = a4 at *
    refine Pc_of (Gf_enter (C := Cf G) Tryz.func96 rfl ok96 (Nat.le_of_ble_eq_true rfl) ?_)
    simp only [Tryz.f96, Option.getD_some]
    (focus refine wC8 trivial (wa h1 (wa h2 (wa h3 (wa h4 trivial)))) ?_ ?_ ?_ ?_ ?_ ?_ ?_ ?_; intro hb hb; rotate_left; intro hb hb hb; rotate_left; intro hb hb hb hb; rotate_left; intro hb hb hb hb hb hb hb; rotate_left; intro hb hb hb hb hb hb hb; rotate_left; intro hb hb hb hb hb hb; rotate_left; intro hb hb hb hb hb; rotate_left; intro hb; rotate_left)
    all_goals simp only [one1, frz_s, Option.map_some]
    all_goals ((repeat' split) <;> first | rfl | (exfalso; omega) | (exfalso; simp_all; done) | (exfalso; simp_all; omega))
end Go.Proofs.Bv
namespace Go.Proofs.Bv
open Go
def dz : List Nat → List Nat
  | [] => []
  | d :: r => if d = 0 then dz r else d :: r
theorem dstr_last (r : List Nat) (d : Nat) : (dstr (r ++ [d])).data[r.length]? = some (dByte d) := by
  show ((r ++ [d]).map dByte).toArray[r.length]? = _
  simp
theorem dstr_emp {l : List Nat} (h : l ≠ []) : ((dstr l).toList == (ByteArray.mk #[]).toList) = false := by
  rw [dstr_nil]
  simp [h]
theorem dz_zero (r : List Nat) : dz (0 :: r) = dz r := by simp [dz]
theorem dz_pos {d : Nat} (h : d ≠ 0) (r : List Nat) : dz (d :: r) = d :: r := by simp [dz, h]
theorem ok291 : codeOk 23 (Tryz.f291.body.getD .skip) = true := by kernel_rfl
theorem ok239 : codeOk 37 (Tryz.f239.body.getD .skip) = true := by kernel_rfl
theorem ok119 : codeOk 6 (Tryz.f119.body.getD .skip) = true := by kernel_rfl
theorem ok238 : codeOk 6 (Tryz.f238.body.getD .skip) = true := by kernel_rfl
set_option maxHeartbeats 4000000 in
set_option maxRecDepth 100000 in
theorem pc291 (G : Nat → Option (List AV)) (l : List Nat) (hn : l.length ≤ 140737488355328) (h : ∀ d ∈ l, d < 10) : Pc (Cf G) 291 [.sc (.string (dstr l.reverse)), .sc (.int .u8 48)] (.sc (.string (dstr (dz l).reverse))) := by
  refine Pc_of (Gf_enter (C := Cf G) Tryz.func291 rfl ok291 (Nat.le_of_ble_eq_true rfl) ?_)
  simp only [Tryz.f291, Option.getD_some]
  refine wB1 trivial ?_
  refine Gc_loop_inv (fun m st => ∃ p r, l = p ++ r ∧ m = r.length ∧ dz r = dz l ∧ st.T 0 = .sc (.string (dstr r.reverse)) ∧ st.T 1 = .sc (.int .u8 48)) ?_ l.length _ ⟨[], l, rfl, rfl, rfl, ?_⟩
  · rintro m ⟨T, hh, n⟩ ⟨p, r, hpr, rfl, hdz, t0, t1⟩
    simp only at t0 t1
    have hrl : r.length ≤ l.length := by rw [hpr]; simp
    have hr : ∀ d ∈ r, d < 10 := fun d hd => h d (by rw [hpr]; simp [hd])
    cases r with
    | nil =>
      have s0 : (dstr ([] : List Nat).reverse).size = 0 := rfl
      refine wB1 (wa t0 (wa t1 s0)) ?_
      simp only [one1, frz_s, Option.map_some, ← hdz, dz]
    | cons d r =>
      have s1 : (dstr (d :: r).reverse).size = r.length + 1 := by rw [dstr_size]; simp
      have hgt : (0 : Int) < ((r.length + 1 : Nat) : Int) := by omega
      have w1 : IntKind.i64.wrap (((r.length + 1 : Nat) : Int) - 1) = (r.length : Int) := by rw [i64 (by simp only [List.length_cons] at hrl; omega) (by simp only [List.length_cons] at hrl; omega)]; omega
      have hat : (dstr (d :: r).reverse).data[r.length]? = some (dByte d) := by
        have := dstr_last r.reverse d
        rw [List.length_reverse] at this
        rw [List.reverse_cons]
        exact this
      have hdn := dByte_nat (hr d (by simp))
      by_cases hd : d = 0
      · subst hd
        have e48 : (((dByte 0).toNat : Int) = 48) = True := by rw [hdn]; simp
        have b1 := bnds_hi (len := r.length + 1) (k := r.length) (by omega)
        have x1 : (dstr (0 :: r).reverse).extract 0 r.length = dstr r.reverse := by
          rw [dstr_cut, List.reverse_cons, List.drop_zero]
          rw [List.take_append_of_le_length (by simp), List.take_of_length_le (by simp)]
        refine wB1 (wa t0 (wa t1 (wa s1 (wa hgt (wa w1 (wa hat (wa @e48 (wa b1 x1)))))))) ?_
        refine ⟨r.length, by simp, p ++ [0], r, by simp [hpr], rfl, by rw [← hdz, dz_zero], ?_⟩
        simp [upd_ap, t1]
      · have e48 : ¬ ((dByte d).toNat : Int) = 48 := by rw [hdn]; omega
        refine wB1 (wa t0 (wa t1 (wa s1 (wa hgt (wa w1 (wa hat @e48)))))) ?_
        simp only [one1, frz_s, Option.map_some, ← hdz, dz_pos hd]
  · simp [upd_ap, argsT]
theorem s48 : (ByteArray.mk #[48]).size = 1 := rfl
theorem a48 : (ByteArray.mk #[48]).data[0]? = some 48 := rfl
theorem n48 : ((48 : UInt8).toNat : Int) = 48 := rfl
theorem e48 : ((ByteArray.mk #[48]).toList == (ByteArray.mk #[]).toList) = false := by rw [ByteArray.toList_eq, ByteArray.toList_eq]; rfl
set_option maxRecDepth 100000 in
theorem pc239 (G : Nat → Option (List AV)) (l : List Nat) (h0 : l ≠ []) (hn : l.length ≤ 140737488355328) (h : ∀ d ∈ l, d < 10) : Pc (Cf G) 239 [.sc (.string (dstr l.reverse)), .sc (.string ⟨#[48]⟩)] (.sc (.string (dstr (dz l).reverse))) := by
  have hc := pc291 G l hn h
  have hne := dstr_emp (l := l.reverse) (by simpa using h0)
  refine Pc_of (Gf_enter (C := Cf G) Tryz.func239 rfl ok239 (Nat.le_of_ble_eq_true rfl) ?_)
  simp only [Tryz.f239, Option.getD_some]
  refine wC1 (wa hne (wa @e48 (wa @s48 (wa @a48 (wa @n48 @Int.natCast_one))))) (wa hc trivial) ?_
  simp only [one1, frz_s, Option.map_some]
theorem pc119 (G : Nat → Option (List AV)) (cs : List AV) (len : Nat) (e : Int) : Pc (Cf G) 119 [.psl cs len, .sc (.int .i64 e)] (.psl cs len) := by
  refine Pc_of (Gf_enter (C := Cf G) Tryz.func119 rfl ok119 (Nat.le_of_ble_eq_true rfl) ?_)
  simp only [Tryz.f119, Option.getD_some]
  refine wB1 trivial ?_
  simp only [one1, frz_l, Option.map_some]
theorem pc238 (G : Nat → Option (List AV)) (s : ByteArray) (e : Int) : Pc (Cf G) 238 [.sc (.string s), .sc (.int .i64 e)] (.sc (.string s)) := by
  refine Pc_of (Gf_enter (C := Cf G) Tryz.func238 rfl ok238 (Nat.le_of_ble_eq_true rfl) ?_)
  simp only [Tryz.f238, Option.getD_some]
  refine wB1 trivial ?_
  simp only [one1, frz_s, Option.map_some]
end Go.Proofs.Bv
namespace Go.Proofs.Bv
open Go
def stripN (n : Nat) : Nat := if h : n = 0 then 0 else if n % 10 = 0 then stripN (n / 10) else n
termination_by n
decreasing_by omega
def tzN (n : Nat) : Nat := if h : n = 0 then 0 else if n % 10 = 0 then tzN (n / 10) + 1 else 0
termination_by n
decreasing_by omega
theorem strip_zero {n : Nat} (h0 : 0 < n) (h : n % 10 = 0) : stripN n = stripN (n / 10) ∧ tzN n = tzN (n / 10) + 1 := by
  constructor
  · rw [stripN, dif_neg (by omega), if_pos h]
  · rw [tzN, dif_neg (by omega), if_pos h]
theorem strip_pos {n : Nat} (h0 : 0 < n) (h : n % 10 ≠ 0) : stripN n = n ∧ tzN n = 0 := by
  constructor
  · rw [stripN, dif_neg (by omega), if_neg h]
  · rw [tzN, dif_neg (by omega), if_neg h]
theorem strip_digs (n : Nat) : dz (digs n) = digs (stripN n) ∧ (digs n).length = (digs (stripN n)).length + tzN n ∧ n = stripN n * 10 ^ tzN n := by
  induction n using Nat.strongRecOn with
  | ind n ih =>
    rcases Nat.eq_zero_or_pos n with rfl | h0
    · rw [stripN, tzN, digs_zero]
      simp [dz, digs_zero]
    · by_cases h : n % 10 = 0
      · obtain ⟨e1, e2⟩ := strip_zero h0 h
        obtain ⟨i1, i2, i3⟩ := ih (n / 10) (by omega)
        rw [e1, e2, digs_pos h0, h, dz_zero, List.length_cons]
        refine ⟨i1, by omega, ?_⟩
        rw [Nat.pow_succ, ← Nat.mul_assoc, ← i3]
        omega
      · obtain ⟨e1, e2⟩ := strip_pos h0 h
        rw [e1, e2, digs_pos h0, dz_pos h]
        simp
theorem strip_ne {n : Nat} (h0 : 0 < n) : 0 < stripN n ∧ stripN n % 10 ≠ 0 := by
  induction n using Nat.strongRecOn with
  | ind n ih =>
    by_cases h : n % 10 = 0
    · rw [(strip_zero h0 h).1]
      exact ih (n / 10) (by omega) (by omega)
    · rw [(strip_pos h0 h).1]
      exact ⟨h0, h⟩
theorem mv_rev : (l : List Nat) → mv l.reverse = dv l
  | [] => rfl
  | d :: l => by
    rw [List.reverse_cons, mv_app, mv_rev l]
    simp [mv, dv]
    omega
theorem decStr_d {n : Nat} (h : 0 < n) : decStr n = dstr (digs n).reverse := by
  unfold decStr dstr
  rw [if_neg (by omega)]
theorem natChk_lim {n : Nat} (h : (lim n).length ≤ 256) : natChk (lim n) = 0 := by
  unfold natChk
  rw [if_neg (by omega), if_neg]
  intro e
  exact lim_top n 0 e rfl
theorem lim_digs {n k : Nat} (h : (digs n).length ≤ k) : (lim n).length ≤ k := by
  refine lim_len k n ?_
  have e := dv_digs n
  have : ∀ l : List Nat, (∀ d ∈ l, d < 10) → dv l < 10 ^ l.length := by
    intro l
    induction l with
    | nil => intro _; simp [dv]
    | cons d l ih =>
      intro hl
      have h1 := ih fun x hx => hl x (by simp [hx])
      have h2 := hl d (by simp)
      simp only [dv, List.length_cons, Nat.pow_succ]
      omega
  have h2 := this (digs n) (digs_lt n)
  rw [e] at h2
  exact Nat.lt_of_lt_of_le h2 (Nat.pow_le_pow_right (by omega) h)
def encD (ng : Bool) (n : Nat) (ex : Int) : List AV := [.sc (.bool ng), .psl (u32s (lim n)) (lim n).length, .sc (.int .i64 ex)]
theorem ok184 : codeOk 8 (Tryz.f184.body.getD .skip) = true := by kernel_rfl
theorem ok185 : codeOk 39 (Tryz.f185.body.getD .skip) = true := by kernel_rfl
theorem ok121 : codeOk 30 (Tryz.f121.body.getD .skip) = true := by kernel_rfl
theorem ok101 : codeOk 23 (Tryz.f101.body.getD .skip) = true := by kernel_rfl
theorem ok103 : codeOk 31 (Tryz.f103.body.getD .skip) = true := by kernel_rfl
theorem pc184 (G : Nat → Option (List AV)) (ng : Bool) (n : Nat) (ex : Int) : Pc (Cf G) 184 [.agg (encD ng n ex)] (.sc (.bool (decide (n = 0)))) := by
  have e : decide (((lim n).length : Int) = 0) = decide (n = 0) := by
    rw [decide_eq_decide]
    constructor
    · intro h
      exact lim_nil.1 (List.eq_nil_of_length_eq_zero (by omega))
    · rintro rfl
      rw [lim_zero]
      rfl
  unfold encD
  refine Pc_of (Gf_enter (C := Cf G) Tryz.func184 rfl ok184 (Nat.le_of_ble_eq_true rfl) ?_)
  simp only [Tryz.f184, Option.getD_some]
  refine wB1 e ?_
  simp only [one1, frz_s, Option.map_some]
set_option maxHeartbeats 4000000 in
set_option maxRecDepth 100000 in
theorem pc185 (G : Nat → Option (List AV)) (ng : Bool) (n : Nat) (ex : Int) (h0 : 0 < n) (hl : (lim n).length ≤ 256) (hd : (digs n).length ≤ 2400) (hx : -1000000 ≤ ex ∧ ex ≤ 1000000) :
    Pc (Cf G) 185 [.agg (encD ng n ex)] (.agg (encD ng (stripN n) (ex + tzN n))) := by
  obtain ⟨s1, s2, s3⟩ := strip_digs n
  obtain ⟨p1, p2⟩ := strip_ne h0
  have h1 := pc223 G (lim n) (natChk_lim hl) (lim_limbs n)
  rw [nv_lim, Int.toNat_natCast, decStr_d h0] at h1
  have hne : digs n ≠ [] := fun e => by rw [digs_nil] at e; omega
  have hne2 : digs (stripN n) ≠ [] := fun e => by rw [digs_nil] at e; omega
  have h2 := pc238 G (dstr (digs n).reverse) 0
  have h3 := pc239 G (digs n) hne (by omega) (digs_lt n)
  rw [s1] at h3
  have h4 := pc120 G (digs (stripN n)).reverse (by simpa using hne2) (by rw [List.length_reverse]; omega) (fun d hd' => digs_lt (stripN n) d (by simpa using hd'))
  rw [mv_rev, dv_digs] at h4
  have h5 := pc119 G (u32s (lim (stripN n))) (lim (stripN n)).length 0
  have z1 : (dstr (digs n).reverse).size = (digs n).length := by rw [dstr_size, List.length_reverse]
  have z2 : (dstr (digs (stripN n)).reverse).size = (digs (stripN n)).length := by rw [dstr_size, List.length_reverse]
  unfold lsl at h4
  unfold encD
  refine Pc_of (Gf_enter (C := Cf G) Tryz.func185 rfl ok185 (Nat.le_of_ble_eq_true rfl) ?_)
  simp only [Tryz.f185, Option.getD_some]
  by_cases ht : tzN n = 0
  · have e1 : (((digs (stripN n)).length : Int) = ((digs n).length : Int)) = True := by rw [s2, ht]; simp
    have e2 : stripN n = n := by rw [ht] at s3; simpa using s3.symm
    refine wC1 (wa z1 (wa z2 e1)) (wa h1 (wa h2 (wa h3 trivial))) ?_
    rw [e2, ht]
    simp only [one1, frz_a, mapF, frz_s, frz_l, Option.map_some, Int.natCast_zero, Int.add_zero, List.append_nil]
  · have e1 : ¬ ((digs (stripN n)).length : Int) = ((digs n).length : Int) := by omega
    have w1 : IntKind.i64.wrap (((digs n).length : Int) - ((digs (stripN n)).length : Int)) = (tzN n : Int) := by rw [i64 (by omega) (by omega)]; omega
    have w2 : IntKind.i64.wrap (ex + (tzN n : Int)) = ex + (tzN n : Int) := i64 (by omega) (by omega)
    refine wC1 (wa z1 (wa z2 (wa e1 (wa w1 w2)))) (wa h1 (wa h2 (wa h3 (wa h4 (wa h5 trivial))))) ?_
    simp only [one1, frz_a, mapF, frz_s, frz_l, Option.map_some, List.append_nil]
def settleD (ng : Bool) (n : Nat) (ex : Int) : (Bool × Nat × Int) × Int :=
  if n = 0 then ((false, 0, 0), 0)
  else if 300 < (digs (stripN n)).length then ((false, 0, 0), 51)
  else if ex + tzN n < -1000 ∨ 1000 < ex + tzN n then ((false, 0, 0), 52)
  else ((ng, stripN n, ex + tzN n), 0)
end Go.Proofs.Bv
namespace Go.Proofs.Bv
open Go
def encR (r : (Bool × Nat × Int) × Int) : AV := .tup [.agg (encD r.1.1 r.1.2.1 r.1.2.2), .sc (.int .i64 r.2)]
theorem strip_le (n : Nat) : (digs (stripN n)).length ≤ (digs n).length := by
  have := (strip_digs n).2.1
  omega
theorem tz_le (n : Nat) : tzN n ≤ (digs n).length := by
  have := (strip_digs n).2.1
  omega
set_option maxHeartbeats 4000000 in
set_option maxRecDepth 100000 in
theorem pc121 (G : Nat → Option (List AV)) (ng : Bool) (n : Nat) (ex : Int) (hl : (lim n).length ≤ 256) (hd : (digs n).length ≤ 2400) (hx : -1000000 ≤ ex ∧ ex ≤ 1000000) :
    Pc (Cf G) 121 [.agg (encD ng n ex)] (encR (settleD ng n ex)) := by
  have h1 := pc184 G ng n ex
  have z0 : u32s (lim 0) = [] := by rw [lim_zero]; rfl
  have z1 : (lim 0).length = 0 := by rw [lim_zero]; rfl
  unfold settleD
  by_cases h0 : n = 0
  · subst h0
    rw [if_pos rfl]
    unfold encR
    unfold encD at h1 ⊢
    rw [z0, z1] at h1 ⊢
    refine Pc_of (Gf_enter (C := Cf G) Tryz.func121 rfl ok121 (Nat.le_of_ble_eq_true rfl) ?_)
    simp only [Tryz.f121, Option.getD_some]
    refine wC1 trivial (wa h1 trivial) ?_
    simp only [one1, frz_t, frz_a, frz_n, mapF, frz_s, frz_l, Option.map_some, List.append_nil] <;> rfl
  · have h2 := pc185 G ng n ex (by omega) hl hd hx
    have hs := strip_le n
    have hz := tz_le n
    have hl2 : (lim (stripN n)).length ≤ 256 := by
      obtain ⟨_, _, e⟩ := strip_digs n
      have : stripN n ≤ n := by
        conv => rhs; rw [e]
        exact Nat.le_mul_of_pos_right _ (Nat.pow_pos (by omega))
      exact Nat.le_trans (lim_mono this) hl
    have h3 := pc162 G (lim (stripN n)) (natChk_lim hl2) (lim_limbs _)
    unfold nDig at h3
    rw [nv_lim, Int.toNat_natCast] at h3
    rw [if_neg h0]
    unfold encD at h1 h2
    by_cases c1 : 300 < (digs (stripN n)).length
    · rw [if_pos c1]
      have c1' : (300 : Int) < ((digs (stripN n)).length : Int) := by omega
      unfold encR encD
      rw [z0, z1]
      refine Pc_of (Gf_enter (C := Cf G) Tryz.func121 rfl ok121 (Nat.le_of_ble_eq_true rfl) ?_)
      simp only [Tryz.f121, Option.getD_some]
      try simp only [encD]
      refine wC1 (wa h0 c1') (wa h1 (wa h2 (wa h3 trivial))) ?_
      simp only [one1, frz_t, frz_a, frz_n, mapF, frz_s, frz_l, Option.map_some, List.append_nil] <;> rfl
    · rw [if_neg c1]
      have c1' : ¬ (300 : Int) < ((digs (stripN n)).length : Int) := by omega
      by_cases c2 : ex + tzN n < -1000
      · rw [if_pos (.inl c2)]
        unfold encR encD
        rw [z0, z1]
        refine Pc_of (Gf_enter (C := Cf G) Tryz.func121 rfl ok121 (Nat.le_of_ble_eq_true rfl) ?_)
        simp only [Tryz.f121, Option.getD_some]
        try simp only [encD]
        refine wC1 (wa h0 (wa c1' c2)) (wa h1 (wa h2 (wa h3 trivial))) ?_
        simp only [one1, frz_t, frz_a, frz_n, mapF, frz_s, frz_l, Option.map_some, List.append_nil] <;> rfl
      · by_cases c3 : 1000 < ex + tzN n
        · rw [if_pos (.inr c3)]
          unfold encR encD
          rw [z0, z1]
          refine Pc_of (Gf_enter (C := Cf G) Tryz.func121 rfl ok121 (Nat.le_of_ble_eq_true rfl) ?_)
          simp only [Tryz.f121, Option.getD_some]
          try simp only [encD]
          refine wC1 (wa h0 (wa c1' (wa c2 @c3))) (wa h1 (wa h2 (wa h3 trivial))) ?_
          simp only [one1, frz_t, frz_a, frz_n, mapF, frz_s, frz_l, Option.map_some, List.append_nil] <;> rfl
        · rw [if_neg (by omega)]
          unfold encR encD
          refine Pc_of (Gf_enter (C := Cf G) Tryz.func121 rfl ok121 (Nat.le_of_ble_eq_true rfl) ?_)
          simp only [Tryz.f121, Option.getD_some]
          try simp only [encD]
          refine wC1 (wa h0 (wa c1' (wa c2 @c3))) (wa h1 (wa h2 (wa h3 trivial))) ?_
          simp only [one1, frz_t, frz_a, frz_n, mapF, frz_s, frz_l, Option.map_some, List.append_nil]
end Go.Proofs.Bv
namespace Go.Proofs.Bv
open Go
theorem ok144 : codeOk 19 (Tryz.f144.body.getD .skip) = true := by kernel_rfl
theorem ok88 : codeOk 9 (Tryz.f88.body.getD .skip) = true := by kernel_rfl
theorem ok152 : codeOk 15 (Tryz.f152.body.getD .skip) = true := by kernel_rfl
theorem ok219 : codeOk 8 (Tryz.f219.body.getD .skip) = true := by kernel_rfl
theorem ok151 : codeOk 6 (Tryz.f151.body.getD .skip) = true := by kernel_rfl
theorem ok95 : codeOk 4 (Tryz.f95.body.getD .skip) = true := by kernel_rfl
mutual
def pre : JV → List JV
  | .mk k ng cf ex t l ks => .mk k ng cf ex t l ks :: pres l
def pres : List JV → List JV
  | [] => []
  | x :: r => pre x ++ pres r
end
theorem pres_app : (a b : List JV) → pres (a ++ b) = pres a ++ pres b
  | [], b => by simp [pres]
  | x :: a, b => by simp only [List.cons_append, pres, pres_app a b, List.append_assoc]
set_option maxHeartbeats 2000000 in
theorem gf144 (G : Nat → Option (List AV)) (l : List JV) (hl : l.length ≤ 140737488355328) (g : FuncId) (caps : List AV) (I : List JV → Heap → Nat → Prop) (Q : AV → Heap → Nat → Prop)
    (hcall : ∀ d x r h n (K : AV → Heap → Nat → Prop), l = d ++ x :: r → I d h n → (∀ h' n', n ≤ n' → I (d ++ [x]) h' n' → K (.sc (.bool false)) h' n') → (∀ h' n', n ≤ n' → Q (.sc (.int .i64 d.length)) h' n' → K (.sc (.bool true)) h' n') →
      Wk (Cf G) (.fn (.func g) caps) [.agg (enc x)] h n K)
    (hend : ∀ h n, I l h n → Q (.sc (.int .i64 (-1))) h n) {h : Heap} {n : Nat} (hI : I [] h n) : Gf (Cf G) 144 [.psl (encs l) l.length, .fn (.func g) caps] h n Q := by
  refine Gf_enter (C := Cf G) Tryz.func144 rfl ok144 (Nat.le_of_ble_eq_true rfl) ?_
  simp only [Tryz.f144, Option.getD_some]
  refine wB1 trivial ?_
  refine Gc_loop_inv (fun m st => ∃ d r, l = d ++ r ∧ m = r.length ∧ st.T 0 = .psl (encs l) l.length ∧ st.T 1 = .fn (.func g) caps ∧ st.T 7 = .sc (.int .i64 l.length) ∧ st.T 8 = .sc (.int .i64 d.length) ∧ I d st.h st.n) ?_ l.length _ ⟨[], l, rfl, rfl, ?_⟩
  · rintro m ⟨T, h, n⟩ ⟨d, r, hdr, rfl, h0, h1, h7, h8, hI⟩
    simp only at h0 h1 h7 h8 hI
    cases r with
    | nil =>
      have e : d = l := by simp [hdr]
      subst e
      have hge : ¬ (d.length : Int) < (d.length : Int) := by omega
      refine wB1 (wa h0 (wa h1 (wa h7 (wa h8 hge)))) ?_
      exact hend _ _ hI
    | cons x r =>
      have hlt : (d.length : Int) < (l.length : Int) := by rw [hdr]; simp; omega
      have hltn : d.length < l.length := by omega
      have hcut : cut (encs l) (d.length * 7) 7 = enc x := by rw [hdr]; exact cut_encs d x r
      have hle : d.length * 7 + 7 ≤ (encs l).length := by rw [encs_len]; omega
      have w1 : IntKind.i64.wrap ((d.length : Int) + 1) = (d.length : Int) + 1 := i64 (by omega) (by omega)
      refine wB1 (wa h0 (wa h1 (wa h7 (wa h8 (wa hlt (wa hltn (wa hcut hle))))))) ?_
      refine st_wk rfl rfl (by simp only [vop, val, argsT, upd_ap, Nat.reduceEqDiff, if_true, if_false, ite_true, ite_false, reduceIte, loadAt, loadA, AV.cells, AV.one, List.all_cons, List.all_nil, ofV, ofCell, plain, List.getElem?_cons_zero, List.getElem?_cons_succ, List.getElem?_toArray, Option.getD_some, Bool.not_true, Bool.not_false, Bool.false_eq_true, Bool.and_true, Bool.true_and, Bool.and_self, Nat.zero_add, Option.map_some, Option.bind_some, List.map_cons, List.map_nil, ev_add, ev_sub, ev_mul, ev_lss, ev_leq, ev_gtr, ev_geq, ev_eql, ev_neq, ev_seql, ev_sneq, ev_sleq, ev_slss, ev_not, ev_min, ev_max, asNat_nat, asNat_zero, asNat_one, asNat_two, asNat_three, vb_len, List.length_cons, List.length_nil, Nat.reduceAdd, Nat.reduceLeDiff, Nat.reduceMul, Int.reduceEq, Int.reduceLT, Int.reduceLE, Int.reduceNeg, Int.reduceAdd, Int.reduceSub, Nat.reduceLT, decide_true, decide_false, not_true_eq_false, not_false_eq_true, and_self, and_true, true_and, storeA, List.take_zero, List.drop_succ_cons, List.drop_zero, List.nil_append, List.append_nil, List.take_succ_cons, List.cons_append, cut_cons, cut_zero, cut_skip, tAt, hHide, hAt, upsAt, List.contains_cons, List.contains_nil, Nat.reduceBEq, Bool.or_true, Bool.true_or, Bool.or_false, Bool.false_or, Bool.or_self, Bool.and_true, Bool.true_and, Bool.and_false, Bool.false_and, beq_self_eq_true (α := Nat), Option.some_beq_some, Option.none_beq_some, Option.some_beq_none, Bool.false_eq_true, List.all_nil, touch, touchB, Nat.sub_self, List.range'_zero, Nat.add_sub_cancel_left, List.range'_one, h1]) (by simp only [vop, val, argsT, upd_ap, Nat.reduceEqDiff, if_true, if_false, ite_true, ite_false, reduceIte, loadAt, loadA, AV.cells, AV.one, List.all_cons, List.all_nil, ofV, ofCell, plain, List.getElem?_cons_zero, List.getElem?_cons_succ, List.getElem?_toArray, Option.getD_some, Bool.not_true, Bool.not_false, Bool.false_eq_true, Bool.and_true, Bool.true_and, Bool.and_self, Nat.zero_add, Option.map_some, Option.bind_some, List.map_cons, List.map_nil, ev_add, ev_sub, ev_mul, ev_lss, ev_leq, ev_gtr, ev_geq, ev_eql, ev_neq, ev_seql, ev_sneq, ev_sleq, ev_slss, ev_not, ev_min, ev_max, asNat_nat, asNat_zero, asNat_one, asNat_two, asNat_three, vb_len, List.length_cons, List.length_nil, Nat.reduceAdd, Nat.reduceLeDiff, Nat.reduceMul, Int.reduceEq, Int.reduceLT, Int.reduceLE, Int.reduceNeg, Int.reduceAdd, Int.reduceSub, Nat.reduceLT, decide_true, decide_false, not_true_eq_false, not_false_eq_true, and_self, and_true, true_and, storeA, List.take_zero, List.drop_succ_cons, List.drop_zero, List.nil_append, List.append_nil, List.take_succ_cons, List.cons_append, cut_cons, cut_zero, cut_skip, tAt, hHide, hAt, upsAt, List.contains_cons, List.contains_nil, Nat.reduceBEq, Bool.or_true, Bool.true_or, Bool.or_false, Bool.false_or, Bool.or_self, Bool.and_true, Bool.true_and, Bool.and_false, Bool.false_and, beq_self_eq_true (α := Nat), Option.some_beq_some, Option.none_beq_some, Option.some_beq_none, Bool.false_eq_true, List.all_nil, touch, touchB, Nat.sub_self, List.range'_zero, Nat.add_sub_cancel_left, List.range'_one, h8]) (hcall d x r _ _ _ hdr hI (fun h' n' hn' hI' => st_gn hn' rfl ?_) (fun h' n' hn' hq => st_gn hn' rfl ?_))
      · refine wB1 (wa h0 (wa h1 (wa h7 (wa h8 w1)))) ?_
        refine ⟨r.length, by simp, d ++ [x], r, by simp [hdr], rfl, ?_, ?_, ?_, ?_, hI'⟩
        all_goals simp [upd_ap, h0, h1, h7]
      · refine wB1 (wa h0 (wa h1 (wa h7 (wa h8 w1)))) ?_
        exact hq
  · simp [upd_ap, argsT, hI]
theorem gf88 (G : Nat → Option (List AV)) (l : List JV) (hl : l.length ≤ 140737488355328) (g : FuncId) (m : Nat) (I : List JV → Heap → Nat → Prop) (Q : AV → Heap → Nat → Prop)
    (hcall : ∀ d x r h n (K : AV → Heap → Nat → Prop), l = d ++ x :: r → I d h n → (∀ h' n', n ≤ n' → I (d ++ [x]) h' n' → K (.sc (.bool false)) h' n') → (∀ h' n', n ≤ n' → Q (.sc (.bool true)) h' n' → K (.sc (.bool true)) h' n') →
      Wk (Cf G) (.fn (.func g) [.ptr m 0]) [.agg (enc x)] h n K)
    (hend : ∀ h n, I l h n → Q (.sc (.bool false)) h n) {h : Heap} {n : Nat} (hI : I [] h n) : Gf (Cf G) 88 [.psl (encs l) l.length, .fn (.func g) [.ptr m 0]] h n Q := by
  refine Gf_enter (C := Cf G) Tryz.func88 rfl ok88 (Nat.le_of_ble_eq_true rfl) ?_
  simp only [Tryz.f88, Option.getD_some]
  refine wB1 trivial ?_
  refine st_walk rfl rfl rfl (by simp only [vop, val, argsT, upd_ap, Nat.reduceEqDiff, if_true, if_false, ite_true, ite_false, reduceIte, loadAt, loadA, AV.cells, AV.one, List.all_cons, List.all_nil, ofV, ofCell, plain, List.getElem?_cons_zero, List.getElem?_cons_succ, List.getElem?_toArray, Option.getD_some, Bool.not_true, Bool.not_false, Bool.false_eq_true, Bool.and_true, Bool.true_and, Bool.and_self, Nat.zero_add, Option.map_some, Option.bind_some, List.map_cons, List.map_nil, ev_add, ev_sub, ev_mul, ev_lss, ev_leq, ev_gtr, ev_geq, ev_eql, ev_neq, ev_seql, ev_sneq, ev_sleq, ev_slss, ev_not, ev_min, ev_max, asNat_nat, asNat_zero, asNat_one, asNat_two, asNat_three, vb_len, List.length_cons, List.length_nil, Nat.reduceAdd, Nat.reduceLeDiff, Nat.reduceMul, Int.reduceEq, Int.reduceLT, Int.reduceLE, Int.reduceNeg, Int.reduceAdd, Int.reduceSub, Nat.reduceLT, decide_true, decide_false, not_true_eq_false, not_false_eq_true, and_self, and_true, true_and, storeA, List.take_zero, List.drop_succ_cons, List.drop_zero, List.nil_append, List.append_nil, List.take_succ_cons, List.cons_append, cut_cons, cut_zero, cut_skip, tAt, hHide, hAt, upsAt, List.contains_cons, List.contains_nil, Nat.reduceBEq, Bool.or_true, Bool.true_or, Bool.or_false, Bool.false_or, Bool.or_self, Bool.and_true, Bool.true_and, Bool.and_false, Bool.false_and, beq_self_eq_true (α := Nat), Option.some_beq_some, Option.none_beq_some, Option.some_beq_none, Bool.false_eq_true, List.all_nil, touch, touchB, Nat.sub_self, List.range'_zero, Nat.add_sub_cancel_left, List.range'_one]; with_reducible rfl) rfl rfl ?_
  refine gf144 G l hl g [.ptr m 0] (fun d h' n' => n ≤ n' ∧ I d h' n') _ (fun d x r h' n' K hl hI hF hT => hcall d x r h' n' K hl hI.2 (fun h2 n2 hn2 hI2 => hF h2 n2 hn2 ⟨Nat.le_trans hI.1 hn2, hI2⟩) (fun h2 n2 hn2 hq => hT h2 n2 hn2 (st_gn (Nat.le_trans hI.1 hn2) rfl ?_))) (fun h' n' hI => st_gn hI.1 rfl ?_) ⟨Nat.le_refl _, hI⟩
  · have hge : (0 : Int) ≤ (d.length : Int) := by omega
    refine wB1 hge ?_
    exact hq
  · refine wB1 trivial ?_
    exact hend _ _ hI.2
section
variable (G : Nat → Option (List AV)) (b : Nat) (I : List JV → Heap → Nat → Prop) (S : Heap → Nat → Prop) (c : Nat) (P : List JV)
def RoundOk : Prop := ∀ d x h n (K : AV → Heap → Nat → Prop), Fit x → (∃ r, P = d ++ x :: r) → I d h n → c ≤ n → (∀ h' n', n ≤ n' → (∀ m, c ≤ m → m < n → h' m = h m) → I (d ++ [x]) h' n' → K (.sc (.bool true)) h' n') →
  (∀ h' n', n ≤ n' → S h' n' → K (.sc (.bool false)) h' n') → Wk (Cf G) (.fn (.yield b) []) [.agg (enc x)] h n K
def Stays : Prop := ∀ d h n h' n', I d h n → n ≤ n' → (∀ m, m < c → h' m = h m) → I d h' n'
def WalkOk (v : JV) : Prop := ∀ d h n (Q : AV → Heap → Nat → Prop), (∃ r, P = d ++ (pre v ++ r)) → c ≤ n → I d h n → (∀ h' n', n ≤ n' → (∀ m, c ≤ m → m < n → h' m = h m) → I (d ++ pre v) h' n' → Q (.sc (.bool true)) h' n') →
  (∀ h' n', n ≤ n' → S h' n' → Q (.sc (.bool false)) h' n') → Gf (Cf G) 152 [.agg (enc v), .fn (.yield b) []] h n Q
end
variable {G : Nat → Option (List AV)} {b : Nat} {I : List JV → Heap → Nat → Prop} {S : Heap → Nat → Prop} {c : Nat} {P : List JV}
theorem wk219 (hst : Stays I c) {x : JV} (hw : WalkOk G b I S c P x) {m : Nat} {d : List JV} (hP : ∃ r, P = d ++ (pre x ++ r)) {h : Heap} {n : Nat} (hm : h m = some (.cells [.fn (.yield b) []] 0 false)) (hcm : c ≤ m) (hmn : m < n) (hI : I d h n) (K : AV → Heap → Nat → Prop)
    (hF : ∀ h' n', n ≤ n' → (∀ m, c ≤ m → m < n → h' m = h m) → I (d ++ pre x) h' n' → K (.sc (.bool false)) h' n') (hT : ∀ h' n', n ≤ n' → S h' n' → K (.sc (.bool true)) h' n') :
    Wk (Cf G) (.fn (.func 219) [.ptr m 0]) [.agg (enc x)] h n K := by
  rw [Wk_box rfl]
  refine Gf.go ?_
  have hne : ¬ m = n := by omega
  obtain ⟨kk, ng, cf, ex, t, l, ks⟩ := x
  show Gf (Cf G) 219 [.agg (enc (.mk kk ng cf ex t l ks)), .ptr m 0] h n K
  refine Gf_enter (C := Cf G) Tryz.func219 rfl ok219 (Nat.le_of_ble_eq_true rfl) ?_
  simp only [Tryz.f219, Option.getD_some]
  simp only [enc]
  refine wB1 (wa hm hne) ?_
  refine st_walk rfl rfl rfl (by simp only [vop, val, argsT, upd_ap, Nat.reduceEqDiff, if_true, if_false, ite_true, ite_false, reduceIte, loadAt, loadA, AV.cells, AV.one, List.all_cons, List.all_nil, ofV, ofCell, plain, List.getElem?_cons_zero, List.getElem?_cons_succ, List.getElem?_toArray, Option.getD_some, Bool.not_true, Bool.not_false, Bool.false_eq_true, Bool.and_true, Bool.true_and, Bool.and_self, Nat.zero_add, Option.map_some, Option.bind_some, List.map_cons, List.map_nil, ev_add, ev_sub, ev_mul, ev_lss, ev_leq, ev_gtr, ev_geq, ev_eql, ev_neq, ev_seql, ev_sneq, ev_sleq, ev_slss, ev_not, ev_min, ev_max, asNat_nat, asNat_zero, asNat_one, asNat_two, asNat_three, vb_len, List.length_cons, List.length_nil, Nat.reduceAdd, Nat.reduceLeDiff, Nat.reduceMul, Int.reduceEq, Int.reduceLT, Int.reduceLE, Int.reduceNeg, Int.reduceAdd, Int.reduceSub, Nat.reduceLT, decide_true, decide_false, not_true_eq_false, not_false_eq_true, and_self, and_true, true_and, storeA, List.take_zero, List.drop_succ_cons, List.drop_zero, List.nil_append, List.append_nil, List.take_succ_cons, List.cons_append, cut_cons, cut_zero, cut_skip, tAt, hHide, hAt, upsAt, List.contains_cons, List.contains_nil, Nat.reduceBEq, Bool.or_true, Bool.true_or, Bool.or_false, Bool.false_or, Bool.or_self, Bool.and_true, Bool.true_and, Bool.and_false, Bool.false_and, beq_self_eq_true (α := Nat), Option.some_beq_some, Option.none_beq_some, Option.some_beq_none, Bool.false_eq_true, List.all_nil, touch, touchB, Nat.sub_self, List.range'_zero, Nat.add_sub_cancel_left, List.range'_one]; with_reducible rfl) rfl rfl ?_
  refine hw d _ _ _ hP (by omega) (hst d h n _ _ hI (Nat.le_succ n) (fun q hq => upd_ne _ _ (by omega))) (fun h' n' hn' hfr hI' => st_gn hn' rfl ?_) (fun h' n' hn' hs => st_gn hn' rfl ?_)
  · refine wB1 trivial ?_
    refine hF h' n' (by omega) (fun q h1 h2 => ?_) hI'
    rw [hfr q h1 (by omega), upd_ne _ _ (by omega)]
  · refine wB1 trivial ?_
    exact hT h' n' (by omega) hs
end Go.Proofs.Bv
namespace Go.Proofs.Bv
open Go
variable {G : Nat → Option (List AV)} {b : Nat} {I : List JV → Heap → Nat → Prop} {S : Heap → Nat → Prop} {c : Nat} {P : List JV}
set_option maxHeartbeats 2000000 in
theorem walk_ok (hst : Stays I c) (hround : RoundOk G b I S c P) : (v : JV) → Fit v → WalkOk G b I S c P v
  | .mk kk ng cf ex t l ks => fun hfit => by
    intro d h n Q ⟨rP, hP⟩ hcn hI hT hF
    have hnl := hfit.1.nlist
    have ih : ∀ x ∈ l, WalkOk G b I S c P x := fun x hx => walk_ok hst hround x (Fits_mem hfit.2 x hx)
    have hn1 : ¬ n = n + 1 := by omega
    refine Gf_enter (C := Cf G) Tryz.func152 rfl ok152 (Nat.le_of_ble_eq_true rfl) ?_
    simp only [Tryz.f152, Option.getD_some]
    simp only [enc]
    refine wB1 @hn1 ?_
    have hI2 := hst d h n (upd (upd h n (some (.cells (enc (.mk kk ng cf ex t l ks)) 0 false))) (n + 1) (some (.cells [.fn (.yield b) []] 0 false))) (n + 1 + 1) hI (by omega) (fun q hq => by rw [upd_ne _ _ (by omega), upd_ne _ _ (by omega)])
    refine st_wk rfl rfl (by simp only [vop, val, argsT, upd_ap, Nat.reduceEqDiff, if_true, if_false, ite_true, ite_false, reduceIte, loadAt, loadA, AV.cells, AV.one, List.all_cons, List.all_nil, ofV, ofCell, plain, List.getElem?_cons_zero, List.getElem?_cons_succ, List.getElem?_toArray, Option.getD_some, Bool.not_true, Bool.not_false, Bool.false_eq_true, Bool.and_true, Bool.true_and, Bool.and_self, Nat.zero_add, Option.map_some, Option.bind_some, List.map_cons, List.map_nil, ev_add, ev_sub, ev_mul, ev_lss, ev_leq, ev_gtr, ev_geq, ev_eql, ev_neq, ev_seql, ev_sneq, ev_sleq, ev_slss, ev_not, ev_min, ev_max, asNat_nat, asNat_zero, asNat_one, asNat_two, asNat_three, vb_len, List.length_cons, List.length_nil, Nat.reduceAdd, Nat.reduceLeDiff, Nat.reduceMul, Int.reduceEq, Int.reduceLT, Int.reduceLE, Int.reduceNeg, Int.reduceAdd, Int.reduceSub, Nat.reduceLT, decide_true, decide_false, not_true_eq_false, not_false_eq_true, and_self, and_true, true_and, storeA, List.take_zero, List.drop_succ_cons, List.drop_zero, List.nil_append, List.append_nil, List.take_succ_cons, List.cons_append, cut_cons, cut_zero, cut_skip, tAt, hHide, hAt, upsAt, List.contains_cons, List.contains_nil, Nat.reduceBEq, Bool.or_true, Bool.true_or, Bool.or_false, Bool.false_or, Bool.or_self, Bool.and_true, Bool.true_and, Bool.and_false, Bool.false_and, beq_self_eq_true (α := Nat), Option.some_beq_some, Option.none_beq_some, Option.some_beq_none, Bool.false_eq_true, List.all_nil, touch, touchB, Nat.sub_self, List.range'_zero, Nat.add_sub_cancel_left, List.range'_one]) (by simp only [vop, val, argsT, upd_ap, Nat.reduceEqDiff, if_true, if_false, ite_true, ite_false, reduceIte, loadAt, loadA, AV.cells, AV.one, List.all_cons, List.all_nil, ofV, ofCell, plain, List.getElem?_cons_zero, List.getElem?_cons_succ, List.getElem?_toArray, Option.getD_some, Bool.not_true, Bool.not_false, Bool.false_eq_true, Bool.and_true, Bool.true_and, Bool.and_self, Nat.zero_add, Option.map_some, Option.bind_some, List.map_cons, List.map_nil, ev_add, ev_sub, ev_mul, ev_lss, ev_leq, ev_gtr, ev_geq, ev_eql, ev_neq, ev_seql, ev_sneq, ev_sleq, ev_slss, ev_not, ev_min, ev_max, asNat_nat, asNat_zero, asNat_one, asNat_two, asNat_three, vb_len, List.length_cons, List.length_nil, Nat.reduceAdd, Nat.reduceLeDiff, Nat.reduceMul, Int.reduceEq, Int.reduceLT, Int.reduceLE, Int.reduceNeg, Int.reduceAdd, Int.reduceSub, Nat.reduceLT, decide_true, decide_false, not_true_eq_false, not_false_eq_true, and_self, and_true, true_and, storeA, List.take_zero, List.drop_succ_cons, List.drop_zero, List.nil_append, List.append_nil, List.take_succ_cons, List.cons_append, cut_cons, cut_zero, cut_skip, tAt, hHide, hAt, upsAt, List.contains_cons, List.contains_nil, Nat.reduceBEq, Bool.or_true, Bool.true_or, Bool.or_false, Bool.false_or, Bool.or_self, Bool.and_true, Bool.true_and, Bool.and_false, Bool.false_and, beq_self_eq_true (α := Nat), Option.some_beq_some, Option.none_beq_some, Option.some_beq_none, Bool.false_eq_true, List.all_nil, touch, touchB, Nat.sub_self, List.range'_zero, Nat.add_sub_cancel_left, List.range'_one, enc]) (hround d _ _ _ _ hfit ⟨pres l ++ rP, by rw [hP]; simp [pre]⟩ hI2 (by omega) (fun h' n' hn' hfr hI' => st_gn hn' rfl ?_) (fun h' n' hn' hs => st_gn hn' rfl ?_))
    · have q0 : h' n = some (.cells (enc (.mk kk ng cf ex t l ks)) 0 false) := by
        rw [hfr n hcn (by omega), upd_ne _ _ (by omega), upd_same]
        rfl
      have q1 : h' (n + 1) = some (.cells [.fn (.yield b) []] 0 false) := by
        rw [hfr (n + 1) (by omega) (by omega), upd_same]
      refine wB1 (wa q0 (wa q1 @Array.size_empty.{0})) ?_
      refine o_gw ?_
      refine st_walk rfl rfl rfl (by simp only [vop, val, argsT, upd_ap, Nat.reduceEqDiff, if_true, if_false, ite_true, ite_false, reduceIte, loadAt, loadA, AV.cells, AV.one, List.all_cons, List.all_nil, ofV, ofCell, plain, List.getElem?_cons_zero, List.getElem?_cons_succ, List.getElem?_toArray, Option.getD_some, Bool.not_true, Bool.not_false, Bool.false_eq_true, Bool.and_true, Bool.true_and, Bool.and_self, Nat.zero_add, Option.map_some, Option.bind_some, List.map_cons, List.map_nil, ev_add, ev_sub, ev_mul, ev_lss, ev_leq, ev_gtr, ev_geq, ev_eql, ev_neq, ev_seql, ev_sneq, ev_sleq, ev_slss, ev_not, ev_min, ev_max, asNat_nat, asNat_zero, asNat_one, asNat_two, asNat_three, vb_len, List.length_cons, List.length_nil, Nat.reduceAdd, Nat.reduceLeDiff, Nat.reduceMul, Int.reduceEq, Int.reduceLT, Int.reduceLE, Int.reduceNeg, Int.reduceAdd, Int.reduceSub, Nat.reduceLT, decide_true, decide_false, not_true_eq_false, not_false_eq_true, and_self, and_true, true_and, storeA, List.take_zero, List.drop_succ_cons, List.drop_zero, List.nil_append, List.append_nil, List.take_succ_cons, List.cons_append, cut_cons, cut_zero, cut_skip, tAt, hHide, hAt, upsAt, List.contains_cons, List.contains_nil, Nat.reduceBEq, Bool.or_true, Bool.true_or, Bool.or_false, Bool.false_or, Bool.or_self, Bool.and_true, Bool.true_and, Bool.and_false, Bool.false_and, beq_self_eq_true (α := Nat), Option.some_beq_some, Option.none_beq_some, Option.some_beq_none, Bool.false_eq_true, List.all_nil, touch, touchB, Nat.sub_self, List.range'_zero, Nat.add_sub_cancel_left, List.range'_one]; with_reducible rfl) rfl rfl ?_
      refine gf88 G l (by omega) 219 (n + 1) (fun e h2 n2 => n' ≤ n2 ∧ (∀ m, c ≤ m → m < n' → h2 m = h' m) ∧ I (d ++ .mk kk ng cf ex t l ks :: pres e) h2 n2) _ ?_ ?_ ⟨Nat.le_refl _, fun _ _ _ => rfl, by simpa [pres] using hI'⟩
      · rintro e x r h2 n2 K hl ⟨hn2, hfr2, hI2⟩ hF2 hT2
        refine wk219 hst (ih x (by rw [hl]; simp)) (d := d ++ .mk kk ng cf ex t l ks :: pres e) ⟨pres r ++ rP, by rw [hP]; simp only [pre]; rw [hl, pres_app]; simp [pres]⟩ (by rw [hfr2 (n + 1) (by omega) (by omega), q1]) (by omega) (by omega) hI2 K (fun h3 n3 hn3 hfr3 hI3 => hF2 h3 n3 hn3 ⟨by omega, fun m h1 h2 => ?_, ?_⟩) (fun h3 n3 hn3 hs => hT2 h3 n3 hn3 (st_gn (by omega) rfl ?_))
        · rw [hfr3 m h1 (by omega), hfr2 m h1 h2]
        · have e2 : d ++ JV.mk kk ng cf ex t l ks :: pres (e ++ [x]) = (d ++ JV.mk kk ng cf ex t l ks :: pres e) ++ pre x := by
            rw [pres_app]
            simp [pres]
          rw [e2]
          exact hI3
        · refine wB1 trivial ?_
          exact hF h3 n3 (by omega) hs
      · rintro h2 n2 ⟨hn2, hfr2, hI2⟩
        refine st_gn hn2 rfl ?_
        refine wB1 trivial ?_
        refine hT h2 n2 (by omega) (fun m h1 h3 => ?_) ?_
        · rw [hfr2 m h1 (by omega), hfr m h1 (by omega), upd_ne _ _ (by omega), upd_ne _ _ (by omega)]
        · simpa [pre] using hI2
    · refine wB1 trivial ?_
      exact hF h' n' (by omega) hs
  termination_by v => v
  decreasing_by
    simp_wf
    have := List.sizeOf_lt_of_mem hx
    omega
theorem gf151 (hst : Stays I c) (v : JV) (hround : RoundOk G b I S c (pre v)) (hfit : Fit v) (h : Heap) (n : Nat) (hcn : c ≤ n) (hI : I [] h n) (Q : AV → Heap → Nat → Prop) (hT : ∀ h' n', n ≤ n' → I (pre v) h' n' → Q (.tup []) h' n') (hF : ∀ h' n', n ≤ n' → S h' n' → Q (.tup []) h' n') :
    Gf (Cf G) 151 [.fn (.yield b) [], .pptr (enc v) 0] h n Q := by
  have hw := walk_ok hst hround v hfit
  obtain ⟨kk, ng, cf, ex, t, l, ks⟩ := v
  refine Gf_enter (C := Cf G) Tryz.func151 rfl ok151 (Nat.le_of_ble_eq_true rfl) ?_
  simp only [Tryz.f151, Option.getD_some]
  simp only [enc]
  refine wB1 trivial ?_
  refine st_walk rfl rfl rfl (by simp only [vop, val, argsT, upd_ap, Nat.reduceEqDiff, if_true, if_false, ite_true, ite_false, reduceIte, loadAt, loadA, AV.cells, AV.one, List.all_cons, List.all_nil, ofV, ofCell, plain, List.getElem?_cons_zero, List.getElem?_cons_succ, List.getElem?_toArray, Option.getD_some, Bool.not_true, Bool.not_false, Bool.false_eq_true, Bool.and_true, Bool.true_and, Bool.and_self, Nat.zero_add, Option.map_some, Option.bind_some, List.map_cons, List.map_nil, ev_add, ev_sub, ev_mul, ev_lss, ev_leq, ev_gtr, ev_geq, ev_eql, ev_neq, ev_seql, ev_sneq, ev_sleq, ev_slss, ev_not, ev_min, ev_max, asNat_nat, asNat_zero, asNat_one, asNat_two, asNat_three, vb_len, List.length_cons, List.length_nil, Nat.reduceAdd, Nat.reduceLeDiff, Nat.reduceMul, Int.reduceEq, Int.reduceLT, Int.reduceLE, Int.reduceNeg, Int.reduceAdd, Int.reduceSub, Nat.reduceLT, decide_true, decide_false, not_true_eq_false, not_false_eq_true, and_self, and_true, true_and, storeA, List.take_zero, List.drop_succ_cons, List.drop_zero, List.nil_append, List.append_nil, List.take_succ_cons, List.cons_append, cut_cons, cut_zero, cut_skip, tAt, hHide, hAt, upsAt, List.contains_cons, List.contains_nil, Nat.reduceBEq, Bool.or_true, Bool.true_or, Bool.or_false, Bool.false_or, Bool.or_self, Bool.and_true, Bool.true_and, Bool.and_false, Bool.false_and, beq_self_eq_true (α := Nat), Option.some_beq_some, Option.none_beq_some, Option.some_beq_none, Bool.false_eq_true, List.all_nil, touch, touchB, Nat.sub_self, List.range'_zero, Nat.add_sub_cancel_left, List.range'_one]; with_reducible rfl) rfl rfl ?_
  refine hw [] _ _ _ ⟨[], by simp⟩ hcn hI (fun h' n' hn' hfr hI' => st_gn hn' rfl ?_) (fun h' n' hn' hs => st_gn hn' rfl ?_)
  · refine wB1 trivial ?_
    exact hT h' n' hn' hI'
  · refine wB1 trivial ?_
    exact hF h' n' hn' hs
theorem pc95 (G : Nat → Option (List AV)) (v : JV) : Pc (Cf G) 95 [.agg (enc v)] (.fn (.func 151) [.pptr (enc v) 0]) := by
  obtain ⟨kk, ng, cf, ex, t, l, ks⟩ := v
  refine Pc_of (Gf_enter (C := Cf G) Tryz.func95 rfl ok95 (Nat.le_of_ble_eq_true rfl) ?_)
  simp only [Tryz.f95, Option.getD_some]
  simp only [enc]
  refine wB1 @Array.size_empty.{0} ?_
  rfl
end Go.Proofs.Bv
