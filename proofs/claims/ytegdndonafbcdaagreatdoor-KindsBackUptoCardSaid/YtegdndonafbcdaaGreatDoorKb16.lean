/-
  A part of the proof of KindsBackUptoCardSaid: BkRunes, BkNat2, BkNat3, BkNat4, BkR111, BkChk, BkCount, BkLetters, BkRev, BkRev2.
  Conditions: those that each part names.
-/
import Derived.Test.YtegdndonafbcdaaGreatDoorKb15
import Derived.Lib.TrimU
import Derived.Lib.QuoteLoop
import Derived.Lib.RuneCountTail
set_option linter.unusedSimpArgs false
set_option linter.unusedVariables false
namespace Go.Proofs.Bv
open Go
def runeAt (s : ByteArray) (p : Nat) : Int :=
  if ((Lib.decodeGo (s.extract p s.size)).1 : Int) = 65533 ∧ ((Lib.decodeGo (s.extract p s.size)).2 : Int) = 1 then -1 else (Lib.decodeGo (s.extract p s.size)).1
def wideAt (s : ByteArray) (p : Nat) : Nat := (Lib.decodeGo (s.extract p s.size)).2
theorem wide_rng (s : ByteArray) (p : Nat) (hp : p < s.size) : 1 ≤ wideAt s p ∧ p + wideAt s p ≤ s.size := by
  have hs : (s.extract p s.size).size = s.size - p := by simp
  have h0 : ¬ (s.extract p s.size).size = 0 := by omega
  have h1 := Lib.width_pos (s.extract p s.size) 0
  have h2 := Lib.width_le (s.extract p s.size) (by omega)
  unfold wideAt Lib.decodeGo
  rw [if_neg h0]
  omega
theorem st_wk {C : Cfg} {nt n : Nat} {h : Heap} {T : Nat → AV} {ops : Array Oper} {o : Oper} {l : List Oper} {Q : St → Prop} {f : Operand} {ars : Array Operand} {ts : Array TypeId} {fv : AV} {args : List AV}
    (hop : o.op = .call { callee := .value f, args := ars, argTypes := ts }) (hg : goes ops T o = some true) (hf : val C T f = fv) (ha : ars.toList.map (val C T) = args)
    (hw : Wk C fv args h n (Gn C nt n T o.dst ops l Q)) : Gw C nt ops (o :: l) ⟨T, h, n⟩ Q := by
  refine ⟨?_⟩
  rw [Wo_cons, hg, Wg_true, hop, Ws_call, hf, ha]
  obtain ⟨k, v, h', n', e1, e2⟩ := hw
  refine ⟨k, v, h', n', e1, e2.le, ?_⟩
  have := e2.go
  simp only [Gw_eq] at this
  exact this
theorem ok171 : codeOk 31 (Tryz.f171.body.getD .skip) = true := by kernel_rfl
set_option maxHeartbeats 2000000 in
theorem gf171 (G : Nat → Option (List AV)) (s : ByteArray) (hn : s.size ≤ 140737488355328) (b : Nat) (I : Nat → Heap → Nat → Prop) (Q : AV → Heap → Nat → Prop)
    (hround : ∀ p h n (K : AV → Heap → Nat → Prop), I p h n → p < s.size → (∀ h' n', n ≤ n' → I (p + wideAt s p) h' n' → K (.sc (.bool true)) h' n') → (∀ h' n', n ≤ n' → Q (.tup []) h' n' → K (.sc (.bool false)) h' n') →
      Wk (Cf G) (.fn (.yield b) []) [.sc (.int .i64 p), .sc (.int .i32 (runeAt s p))] h n K)
    (hend : ∀ h n, I s.size h n → Q (.tup []) h n) {h : Heap} {n : Nat} (hI : I 0 h n) : Gf (Cf G) 171 [.fn (.yield b) [], .pptr [.sc (.string s)] 0] h n Q := by
  refine Gf_enter (C := Cf G) Tryz.func171 rfl ok171 (Nat.le_of_ble_eq_true rfl) ?_
  simp only [Tryz.f171, Option.getD_some]
  refine wB1 trivial ?_
  refine Gc_loop_inv (fun m st => ∃ p : Nat, p ≤ s.size ∧ m = s.size - p ∧ st.T 0 = .fn (.yield b) [] ∧ st.T 1 = .pptr [.sc (.string s)] 0 ∧ st.T 3 = .sc (.int .i64 p) ∧ I p st.h st.n) ?_ s.size _ ⟨0, by omega, by omega, ?_⟩
  · rintro m ⟨T, h, n⟩ ⟨p, hp, rfl, h0, h1, h3, hI⟩
    simp only at h0 h1 h3 hI
    by_cases hlt : p < s.size
    · have hlt' : (p : Int) < (s.size : Int) := by omega
      have hbd : bnds s.size (some (.sc (.int .i64 (p : Int)))) none = some (p, s.size) := by simp [bnds, asNat]; omega
      obtain ⟨c, hc⟩ : ∃ c, (Lib.decodeGo (s.extract p s.size)).1 = c := ⟨_, rfl⟩
      obtain ⟨w, hwd⟩ : ∃ w, (Lib.decodeGo (s.extract p s.size)).2 = w := ⟨_, rfl⟩
      have hwr := wide_rng s p hlt
      have hrd := hround p h n
      unfold runeAt at hrd
      unfold wideAt at hwr hrd
      rw [hc, hwd] at hrd
      rw [hwd] at hwr
      have hadd : IntKind.i64.wrap ((p : Int) + (w : Int)) = ((p + w : Nat) : Int) := by rw [i64 (by omega) (by omega)]; omega
      have hadd1 : (w : Int) = 1 → IntKind.i64.wrap ((p : Int) + 1) = (p : Int) + (w : Int) := fun h => by rw [i64 (by omega) (by omega)]; omega
      by_cases h65 : (c : Int) = 65533
      · by_cases hw1 : (w : Int) = 1
        · rw [if_pos ⟨h65, hw1⟩] at hrd
          refine wC1 (wa h0 (wa h1 (wa h3 (wa hlt' (wa hbd (wa hc (wa hwd (wa h65 hw1)))))))) trivial ?_
          refine st_wk rfl rfl (by simp only [vop, val, argsT, upd_ap, Nat.reduceEqDiff, if_true, if_false, ite_true, ite_false, reduceIte, loadAt, loadA, AV.cells, AV.one, List.all_cons, List.all_nil, ofV, ofCell, plain, List.getElem?_cons_zero, List.getElem?_cons_succ, List.getElem?_toArray, Option.getD_some, Bool.not_true, Bool.not_false, Bool.false_eq_true, Bool.and_true, Bool.true_and, Bool.and_self, Nat.zero_add, Option.map_some, Option.bind_some, List.map_cons, List.map_nil, ev_add, ev_sub, ev_mul, ev_lss, ev_leq, ev_gtr, ev_geq, ev_eql, ev_neq, ev_seql, ev_sneq, ev_sleq, ev_slss, ev_not, ev_min, ev_max, asNat_nat, asNat_zero, asNat_one, asNat_two, asNat_three, vb_len, List.length_cons, List.length_nil, Nat.reduceAdd, Nat.reduceLeDiff, Nat.reduceMul, Int.reduceEq, Int.reduceLT, Int.reduceLE, Int.reduceNeg, Int.reduceAdd, Int.reduceSub, Nat.reduceLT, decide_true, decide_false, not_true_eq_false, not_false_eq_true, and_self, and_true, true_and, storeA, List.take_zero, List.drop_succ_cons, List.drop_zero, List.nil_append, List.append_nil, List.take_succ_cons, List.cons_append, cut_cons, cut_zero, cut_skip, tAt, hHide, hAt, upsAt, List.contains_cons, List.contains_nil, Nat.reduceBEq, Bool.or_true, Bool.true_or, Bool.or_false, Bool.false_or, Bool.or_self, Bool.and_true, Bool.true_and, Bool.and_false, Bool.false_and, beq_self_eq_true (α := Nat), Option.some_beq_some, Option.none_beq_some, Option.some_beq_none, Bool.false_eq_true, List.all_nil, touch, touchB, Nat.sub_self, List.range'_zero, Nat.add_sub_cancel_left, List.range'_one, h0]) (by simp only [vop, val, argsT, upd_ap, Nat.reduceEqDiff, if_true, if_false, ite_true, ite_false, reduceIte, loadAt, loadA, AV.cells, AV.one, List.all_cons, List.all_nil, ofV, ofCell, plain, List.getElem?_cons_zero, List.getElem?_cons_succ, List.getElem?_toArray, Option.getD_some, Bool.not_true, Bool.not_false, Bool.false_eq_true, Bool.and_true, Bool.true_and, Bool.and_self, Nat.zero_add, Option.map_some, Option.bind_some, List.map_cons, List.map_nil, ev_add, ev_sub, ev_mul, ev_lss, ev_leq, ev_gtr, ev_geq, ev_eql, ev_neq, ev_seql, ev_sneq, ev_sleq, ev_slss, ev_not, ev_min, ev_max, asNat_nat, asNat_zero, asNat_one, asNat_two, asNat_three, vb_len, List.length_cons, List.length_nil, Nat.reduceAdd, Nat.reduceLeDiff, Nat.reduceMul, Int.reduceEq, Int.reduceLT, Int.reduceLE, Int.reduceNeg, Int.reduceAdd, Int.reduceSub, Nat.reduceLT, decide_true, decide_false, not_true_eq_false, not_false_eq_true, and_self, and_true, true_and, storeA, List.take_zero, List.drop_succ_cons, List.drop_zero, List.nil_append, List.append_nil, List.take_succ_cons, List.cons_append, cut_cons, cut_zero, cut_skip, tAt, hHide, hAt, upsAt, List.contains_cons, List.contains_nil, Nat.reduceBEq, Bool.or_true, Bool.true_or, Bool.or_false, Bool.false_or, Bool.or_self, Bool.and_true, Bool.true_and, Bool.and_false, Bool.false_and, beq_self_eq_true (α := Nat), Option.some_beq_some, Option.none_beq_some, Option.some_beq_none, Bool.false_eq_true, List.all_nil, touch, touchB, Nat.sub_self, List.range'_zero, Nat.add_sub_cancel_left, List.range'_one, h0, h3, h65]) (hrd _ hI hlt (fun h' n' hn' hI' => st_gn hn' rfl ?_) (fun h' n' hn' hq => st_gn hn' rfl ?_))
          · refine wB1 (wa h0 (wa h1 (wa h3 hadd))) ?_
            refine ⟨s.size - (p + w), by omega, p + w, by omega, rfl, ?_, ?_, ?_, hI'⟩
            all_goals first | (simp [upd_ap, h0, h1]; done) | (simp [upd_ap, h0, h1]; exact hadd1 hw1)
          · refine wB1 (wa h0 (wa h1 h3)) ?_
            exact hq
        · rw [if_neg (by omega)] at hrd
          refine wC1 (wa h0 (wa h1 (wa h3 (wa hlt' (wa hbd (wa hc (wa hwd (wa h65 hw1)))))))) trivial ?_
          refine st_wk rfl rfl (by simp only [vop, val, argsT, upd_ap, Nat.reduceEqDiff, if_true, if_false, ite_true, ite_false, reduceIte, loadAt, loadA, AV.cells, AV.one, List.all_cons, List.all_nil, ofV, ofCell, plain, List.getElem?_cons_zero, List.getElem?_cons_succ, List.getElem?_toArray, Option.getD_some, Bool.not_true, Bool.not_false, Bool.false_eq_true, Bool.and_true, Bool.true_and, Bool.and_self, Nat.zero_add, Option.map_some, Option.bind_some, List.map_cons, List.map_nil, ev_add, ev_sub, ev_mul, ev_lss, ev_leq, ev_gtr, ev_geq, ev_eql, ev_neq, ev_seql, ev_sneq, ev_sleq, ev_slss, ev_not, ev_min, ev_max, asNat_nat, asNat_zero, asNat_one, asNat_two, asNat_three, vb_len, List.length_cons, List.length_nil, Nat.reduceAdd, Nat.reduceLeDiff, Nat.reduceMul, Int.reduceEq, Int.reduceLT, Int.reduceLE, Int.reduceNeg, Int.reduceAdd, Int.reduceSub, Nat.reduceLT, decide_true, decide_false, not_true_eq_false, not_false_eq_true, and_self, and_true, true_and, storeA, List.take_zero, List.drop_succ_cons, List.drop_zero, List.nil_append, List.append_nil, List.take_succ_cons, List.cons_append, cut_cons, cut_zero, cut_skip, tAt, hHide, hAt, upsAt, List.contains_cons, List.contains_nil, Nat.reduceBEq, Bool.or_true, Bool.true_or, Bool.or_false, Bool.false_or, Bool.or_self, Bool.and_true, Bool.true_and, Bool.and_false, Bool.false_and, beq_self_eq_true (α := Nat), Option.some_beq_some, Option.none_beq_some, Option.some_beq_none, Bool.false_eq_true, List.all_nil, touch, touchB, Nat.sub_self, List.range'_zero, Nat.add_sub_cancel_left, List.range'_one, h0]) (by simp only [vop, val, argsT, upd_ap, Nat.reduceEqDiff, if_true, if_false, ite_true, ite_false, reduceIte, loadAt, loadA, AV.cells, AV.one, List.all_cons, List.all_nil, ofV, ofCell, plain, List.getElem?_cons_zero, List.getElem?_cons_succ, List.getElem?_toArray, Option.getD_some, Bool.not_true, Bool.not_false, Bool.false_eq_true, Bool.and_true, Bool.true_and, Bool.and_self, Nat.zero_add, Option.map_some, Option.bind_some, List.map_cons, List.map_nil, ev_add, ev_sub, ev_mul, ev_lss, ev_leq, ev_gtr, ev_geq, ev_eql, ev_neq, ev_seql, ev_sneq, ev_sleq, ev_slss, ev_not, ev_min, ev_max, asNat_nat, asNat_zero, asNat_one, asNat_two, asNat_three, vb_len, List.length_cons, List.length_nil, Nat.reduceAdd, Nat.reduceLeDiff, Nat.reduceMul, Int.reduceEq, Int.reduceLT, Int.reduceLE, Int.reduceNeg, Int.reduceAdd, Int.reduceSub, Nat.reduceLT, decide_true, decide_false, not_true_eq_false, not_false_eq_true, and_self, and_true, true_and, storeA, List.take_zero, List.drop_succ_cons, List.drop_zero, List.nil_append, List.append_nil, List.take_succ_cons, List.cons_append, cut_cons, cut_zero, cut_skip, tAt, hHide, hAt, upsAt, List.contains_cons, List.contains_nil, Nat.reduceBEq, Bool.or_true, Bool.true_or, Bool.or_false, Bool.false_or, Bool.or_self, Bool.and_true, Bool.true_and, Bool.and_false, Bool.false_and, beq_self_eq_true (α := Nat), Option.some_beq_some, Option.none_beq_some, Option.some_beq_none, Bool.false_eq_true, List.all_nil, touch, touchB, Nat.sub_self, List.range'_zero, Nat.add_sub_cancel_left, List.range'_one, h0, h3, h65]) (hrd _ hI hlt (fun h' n' hn' hI' => st_gn hn' rfl ?_) (fun h' n' hn' hq => st_gn hn' rfl ?_))
          · refine wB1 (wa h0 (wa h1 (wa h3 hadd))) ?_
            refine ⟨s.size - (p + w), by omega, p + w, by omega, rfl, ?_, ?_, ?_, hI'⟩
            all_goals first | (simp [upd_ap, h0, h1]; done) | (simp [upd_ap, h0, h1]; exact hadd1 hw1)
          · refine wB1 (wa h0 (wa h1 h3)) ?_
            exact hq
      · rw [if_neg (by omega)] at hrd
        refine wC1 (wa h0 (wa h1 (wa h3 (wa hlt' (wa hbd (wa hc (wa hwd h65))))))) trivial ?_
        refine st_wk rfl rfl (by simp only [vop, val, argsT, upd_ap, Nat.reduceEqDiff, if_true, if_false, ite_true, ite_false, reduceIte, loadAt, loadA, AV.cells, AV.one, List.all_cons, List.all_nil, ofV, ofCell, plain, List.getElem?_cons_zero, List.getElem?_cons_succ, List.getElem?_toArray, Option.getD_some, Bool.not_true, Bool.not_false, Bool.false_eq_true, Bool.and_true, Bool.true_and, Bool.and_self, Nat.zero_add, Option.map_some, Option.bind_some, List.map_cons, List.map_nil, ev_add, ev_sub, ev_mul, ev_lss, ev_leq, ev_gtr, ev_geq, ev_eql, ev_neq, ev_seql, ev_sneq, ev_sleq, ev_slss, ev_not, ev_min, ev_max, asNat_nat, asNat_zero, asNat_one, asNat_two, asNat_three, vb_len, List.length_cons, List.length_nil, Nat.reduceAdd, Nat.reduceLeDiff, Nat.reduceMul, Int.reduceEq, Int.reduceLT, Int.reduceLE, Int.reduceNeg, Int.reduceAdd, Int.reduceSub, Nat.reduceLT, decide_true, decide_false, not_true_eq_false, not_false_eq_true, and_self, and_true, true_and, storeA, List.take_zero, List.drop_succ_cons, List.drop_zero, List.nil_append, List.append_nil, List.take_succ_cons, List.cons_append, cut_cons, cut_zero, cut_skip, tAt, hHide, hAt, upsAt, List.contains_cons, List.contains_nil, Nat.reduceBEq, Bool.or_true, Bool.true_or, Bool.or_false, Bool.false_or, Bool.or_self, Bool.and_true, Bool.true_and, Bool.and_false, Bool.false_and, beq_self_eq_true (α := Nat), Option.some_beq_some, Option.none_beq_some, Option.some_beq_none, Bool.false_eq_true, List.all_nil, touch, touchB, Nat.sub_self, List.range'_zero, Nat.add_sub_cancel_left, List.range'_one, h0]) (by simp only [vop, val, argsT, upd_ap, Nat.reduceEqDiff, if_true, if_false, ite_true, ite_false, reduceIte, loadAt, loadA, AV.cells, AV.one, List.all_cons, List.all_nil, ofV, ofCell, plain, List.getElem?_cons_zero, List.getElem?_cons_succ, List.getElem?_toArray, Option.getD_some, Bool.not_true, Bool.not_false, Bool.false_eq_true, Bool.and_true, Bool.true_and, Bool.and_self, Nat.zero_add, Option.map_some, Option.bind_some, List.map_cons, List.map_nil, ev_add, ev_sub, ev_mul, ev_lss, ev_leq, ev_gtr, ev_geq, ev_eql, ev_neq, ev_seql, ev_sneq, ev_sleq, ev_slss, ev_not, ev_min, ev_max, asNat_nat, asNat_zero, asNat_one, asNat_two, asNat_three, vb_len, List.length_cons, List.length_nil, Nat.reduceAdd, Nat.reduceLeDiff, Nat.reduceMul, Int.reduceEq, Int.reduceLT, Int.reduceLE, Int.reduceNeg, Int.reduceAdd, Int.reduceSub, Nat.reduceLT, decide_true, decide_false, not_true_eq_false, not_false_eq_true, and_self, and_true, true_and, storeA, List.take_zero, List.drop_succ_cons, List.drop_zero, List.nil_append, List.append_nil, List.take_succ_cons, List.cons_append, cut_cons, cut_zero, cut_skip, tAt, hHide, hAt, upsAt, List.contains_cons, List.contains_nil, Nat.reduceBEq, Bool.or_true, Bool.true_or, Bool.or_false, Bool.false_or, Bool.or_self, Bool.and_true, Bool.true_and, Bool.and_false, Bool.false_and, beq_self_eq_true (α := Nat), Option.some_beq_some, Option.none_beq_some, Option.some_beq_none, Bool.false_eq_true, List.all_nil, touch, touchB, Nat.sub_self, List.range'_zero, Nat.add_sub_cancel_left, List.range'_one, h0, h3, h65]) (hrd _ hI hlt (fun h' n' hn' hI' => st_gn hn' rfl ?_) (fun h' n' hn' hq => st_gn hn' rfl ?_))
        · refine wB1 (wa h0 (wa h1 (wa h3 hadd))) ?_
          refine ⟨s.size - (p + w), by omega, p + w, by omega, rfl, ?_, ?_, ?_, hI'⟩
          all_goals simp [upd_ap, h0, h1]
        · refine wB1 (wa h0 (wa h1 h3)) ?_
          exact hq
    · have hge : ¬ (p : Int) < (s.size : Int) := by omega
      obtain rfl : p = s.size := by omega
      refine wB1 (wa h0 (wa h1 (wa h3 hge))) ?_
      exact hend _ _ hI
  · simp [upd_ap, argsT, hI]
end Go.Proofs.Bv
namespace Go.Proofs.Bv
open Go
theorem ok331 : codeOk 4 (Tryz.f331.body.getD .skip) = true := by kernel_rfl
theorem ok356 : codeOk 19 (Tryz.f356.body.getD .skip) = true := by kernel_rfl
theorem ok336 : codeOk 33 (Tryz.f336.body.getD .skip) = true := by kernel_rfl
theorem bsu (a b : Int) : fillA (fun i => some (i * 1, 1)) (rep 2 [.sc (.int .u32 0)]) [(0, .sc (.int .u32 a)), (1, .sc (.int .u32 b))] = some [.sc (.int .u32 a), .sc (.int .u32 b)] := rfl
theorem pc159 (G : Nat → Option (List AV)) (n : Int) (h : 0 ≤ n ∧ n ≤ 18446744073709551615) : Pc (Cf G) 159 [.sc (.int .u64 n)] (.psl (u32s (trimL [n % 4294967296, n / 4294967296])) (trimL [n % 4294967296, n / 4294967296]).length) := by
  have hc := pc183 G [n % 4294967296, n / 4294967296] (by simp)
  have w2 : IntKind.u32.wrap (n / 4294967296) = n / 4294967296 := IntWalk.u32_in _ (by omega)
  have w3 : IntKind.u32.wrap n = n % 4294967296 := by rw [IntKind.wrap_u32]
  generalize trimL [n % 4294967296, n / 4294967296] = r at hc
  simp only [u32s, List.map_cons, List.map_nil, List.length_cons, List.length_nil, Nat.zero_add, Nat.reduceAdd] at hc
  refine Pc_of (Gf_enter (C := Cf G) Tryz.func159 rfl ok159 (Nat.le_of_ble_eq_true rfl) ?_)
  simp only [Tryz.f159, Option.getD_some]
  refine wF1 (wa w2 (wa w3 @bsu)) (wa hc trivial) ?_
  simp only [one1, frz_l, Option.map_some]
  rfl
theorem pc331 (G : Nat → Option (List AV)) (cs : List AV) (len : Nat) : Pc (Cf G) 331 [.psl cs len] (.fn (.func 356) [.pptr [.psl cs len] 0]) := by
  refine Pc_of (Gf_enter (C := Cf G) Tryz.func331 rfl ok331 (Nat.le_of_ble_eq_true rfl) ?_)
  simp only [Tryz.f331, Option.getD_some]
  refine wB1 @Array.size_empty.{0} ?_
  all_goals rfl
theorem pc336 (G : Nat → Option (List AV)) (a x d : Int) (ha : 0 ≤ a ∧ a < d) (hx : 0 ≤ x ∧ x ≤ 4294967295) (hd : d ≤ 4294967295) :
    Pc (Cf G) 336 [.sc (.int .u32 a), .sc (.int .u32 x), .sc (.int .u32 d)] (.tup [.sc (.int .u32 ((a * 4294967296 + x) / d)), .sc (.int .u32 ((a * 4294967296 + x) % d))]) := by
  have h1 : ¬ d = 0 := by omega
  have h2 : ¬ d ≤ a := by omega
  have w1 : IntKind.u64.wrap a = a := IntWalk.u64_in _ (by omega)
  have w2 : IntKind.u64.wrap x = x := IntWalk.u64_in _ (by omega)
  have w3 : IntKind.u64.wrap d = d := IntWalk.u64_in _ (by omega)
  have w4 : IntKind.u64.wrap (a * 4294967296) = a * 4294967296 := IntWalk.u64_in _ (by omega)
  have w5 : IntKind.u64.wrap ((BitVec.ofInt 64 (a * 4294967296) ||| BitVec.ofInt 64 x).toNat : Int) = a * 4294967296 + x := or32 (by omega) (by omega)
  have hq0 : 0 ≤ (a * 4294967296 + x) / d := Int.ediv_nonneg (by omega) (by omega)
  have hq1 : (a * 4294967296 + x) / d < 4294967296 := by
    apply Int.ediv_lt_of_lt_mul (by omega)
    have : a + 1 ≤ d := by omega
    have := Int.mul_le_mul_of_nonneg_left this (show (0 : Int) ≤ 4294967296 by omega)
    rw [Int.mul_add] at this
    have e := Int.mul_comm a 4294967296
    omega
  have w6 : IntKind.u64.wrap ((a * 4294967296 + x).tdiv d) = (a * 4294967296 + x) / d := by
    rw [Int.tdiv_eq_ediv_of_nonneg (by omega), IntWalk.u64_in _ (by omega)]
  have hm0 := Int.emod_nonneg (a * 4294967296 + x) (show d ≠ 0 by omega)
  have hm1 := Int.emod_lt_of_pos (a * 4294967296 + x) (show 0 < d by omega)
  have w7 : IntKind.u32.wrap ((a * 4294967296 + x) / d) = (a * 4294967296 + x) / d := IntWalk.u32_in _ (by omega)
  have w8 : (a * 4294967296 + x).tmod d = (a * 4294967296 + x) % d := Int.tmod_eq_emod_of_nonneg (by omega)
  have w9 : IntKind.u32.wrap ((a * 4294967296 + x) % d) = (a * 4294967296 + x) % d := IntWalk.u32_in _ (by omega)
  refine Pc_of (Gf_enter (C := Cf G) Tryz.func336 rfl ok336 (Nat.le_of_ble_eq_true rfl) ?_)
  simp only [Tryz.f336, Option.getD_some]
  refine wB1 (wa h1 (wa h2 (wa w1 (wa w2 (wa w3 w4))))) ?_
  simp only [one1, frz_t, mapF, frz_s, Option.map_some, List.append_nil]
  show some (AV.tup [.sc (.int .u32 (IntKind.u32.wrap (IntKind.u64.wrap ((IntKind.u64.wrap ((BitVec.ofInt 64 (a * 4294967296) ||| BitVec.ofInt 64 x).toNat : Int)).tdiv d)))), .sc (.int .u32 (IntKind.u32.wrap ((IntKind.u64.wrap ((BitVec.ofInt 64 (a * 4294967296) ||| BitVec.ofInt 64 x).toNat : Int)).tmod d)))]) = _
  rw [w5, w6, w7, w8, w9]
theorem gf356 (G : Nat → Option (List AV)) (l : List Int) (hl : l.length ≤ 140737488355328) (b : Nat) (I : Nat → Heap → Nat → Prop) (Q : AV → Heap → Nat → Prop)
    (hround : ∀ k x h n (K : AV → Heap → Nat → Prop), I (k + 1) h n → l[k]? = some x → (∀ h' n', n ≤ n' → I k h' n' → K (.sc (.bool true)) h' n') → (∀ h' n', n ≤ n' → Q (.tup []) h' n' → K (.sc (.bool false)) h' n') →
      Wk (Cf G) (.fn (.yield b) []) [.sc (.int .i64 k), .sc (.int .u32 x)] h n K)
    (hend : ∀ h n, I 0 h n → Q (.tup []) h n) {h : Heap} {n : Nat} (hI : I l.length h n) : Gf (Cf G) 356 [.fn (.yield b) [], .pptr [.psl (u32s l) l.length] 0] h n Q := by
  have w0 : IntKind.i64.wrap ((l.length : Int) - 1) = (l.length : Int) - 1 := i64 (by omega) (by omega)
  refine Gf_enter (C := Cf G) Tryz.func356 rfl ok356 (Nat.le_of_ble_eq_true rfl) ?_
  simp only [Tryz.f356, Option.getD_some]
  refine wB1 w0 ?_
  refine Gc_loop_inv (fun m st => m ≤ l.length ∧ st.T 0 = .fn (.yield b) [] ∧ st.T 1 = .pptr [.psl (u32s l) l.length] 0 ∧ st.T 3 = .sc (.int .i64 ((m : Int) - 1)) ∧ I m st.h st.n) ?_ l.length _ ⟨Nat.le_refl _, ?_⟩
  · rintro m ⟨T, h, n⟩ ⟨hm, h0, h1, h3, hI⟩
    simp only at h0 h1 h3 hI
    cases m with
    | zero =>
      have hge : ¬ (0 : Int) ≤ ((0 : Nat) : Int) - 1 := by omega
      refine wB1 (wa h0 (wa h1 (wa h3 hge))) ?_
      exact hend _ _ hI
    | succ k =>
      have e0 : ((k + 1 : Nat) : Int) - 1 = (k : Int) := by omega
      rw [e0] at h3
      have hge : (0 : Int) ≤ (k : Int) := by omega
      have hlt : k < l.length := by omega
      obtain ⟨x, hx⟩ : ∃ x, l[k]? = some x := ⟨l[k]'(by omega), List.getElem?_eq_getElem (by omega)⟩
      have hx' := u32s_at hx
      have wk : IntKind.i64.wrap ((k : Int) - 1) = (k : Int) - 1 := i64 (by omega) (by omega)
      refine wB1 (wa h0 (wa h1 (wa h3 (wa hge (wa hlt hx'))))) ?_
      refine st_wk rfl rfl (by simp only [vop, val, argsT, upd_ap, Nat.reduceEqDiff, if_true, if_false, ite_true, ite_false, reduceIte, loadAt, loadA, AV.cells, AV.one, List.all_cons, List.all_nil, ofV, ofCell, plain, List.getElem?_cons_zero, List.getElem?_cons_succ, List.getElem?_toArray, Option.getD_some, Bool.not_true, Bool.not_false, Bool.false_eq_true, Bool.and_true, Bool.true_and, Bool.and_self, Nat.zero_add, Option.map_some, Option.bind_some, List.map_cons, List.map_nil, ev_add, ev_sub, ev_mul, ev_lss, ev_leq, ev_gtr, ev_geq, ev_eql, ev_neq, ev_seql, ev_sneq, ev_sleq, ev_slss, ev_not, ev_min, ev_max, asNat_nat, asNat_zero, asNat_one, asNat_two, asNat_three, vb_len, List.length_cons, List.length_nil, Nat.reduceAdd, Nat.reduceLeDiff, Nat.reduceMul, Int.reduceEq, Int.reduceLT, Int.reduceLE, Int.reduceNeg, Int.reduceAdd, Int.reduceSub, Nat.reduceLT, decide_true, decide_false, not_true_eq_false, not_false_eq_true, and_self, and_true, true_and, storeA, List.take_zero, List.drop_succ_cons, List.drop_zero, List.nil_append, List.append_nil, List.take_succ_cons, List.cons_append, cut_cons, cut_zero, cut_skip, tAt, hHide, hAt, upsAt, List.contains_cons, List.contains_nil, Nat.reduceBEq, Bool.or_true, Bool.true_or, Bool.or_false, Bool.false_or, Bool.or_self, Bool.and_true, Bool.true_and, Bool.and_false, Bool.false_and, beq_self_eq_true (α := Nat), Option.some_beq_some, Option.none_beq_some, Option.some_beq_none, Bool.false_eq_true, List.all_nil, touch, touchB, Nat.sub_self, List.range'_zero, Nat.add_sub_cancel_left, List.range'_one, h0]) (by simp only [vop, val, argsT, upd_ap, Nat.reduceEqDiff, if_true, if_false, ite_true, ite_false, reduceIte, loadAt, loadA, AV.cells, AV.one, List.all_cons, List.all_nil, ofV, ofCell, plain, List.getElem?_cons_zero, List.getElem?_cons_succ, List.getElem?_toArray, Option.getD_some, Bool.not_true, Bool.not_false, Bool.false_eq_true, Bool.and_true, Bool.true_and, Bool.and_self, Nat.zero_add, Option.map_some, Option.bind_some, List.map_cons, List.map_nil, ev_add, ev_sub, ev_mul, ev_lss, ev_leq, ev_gtr, ev_geq, ev_eql, ev_neq, ev_seql, ev_sneq, ev_sleq, ev_slss, ev_not, ev_min, ev_max, asNat_nat, asNat_zero, asNat_one, asNat_two, asNat_three, vb_len, List.length_cons, List.length_nil, Nat.reduceAdd, Nat.reduceLeDiff, Nat.reduceMul, Int.reduceEq, Int.reduceLT, Int.reduceLE, Int.reduceNeg, Int.reduceAdd, Int.reduceSub, Nat.reduceLT, decide_true, decide_false, not_true_eq_false, not_false_eq_true, and_self, and_true, true_and, storeA, List.take_zero, List.drop_succ_cons, List.drop_zero, List.nil_append, List.append_nil, List.take_succ_cons, List.cons_append, cut_cons, cut_zero, cut_skip, tAt, hHide, hAt, upsAt, List.contains_cons, List.contains_nil, Nat.reduceBEq, Bool.or_true, Bool.true_or, Bool.or_false, Bool.false_or, Bool.or_self, Bool.and_true, Bool.true_and, Bool.and_false, Bool.false_and, beq_self_eq_true (α := Nat), Option.some_beq_some, Option.none_beq_some, Option.some_beq_none, Bool.false_eq_true, List.all_nil, touch, touchB, Nat.sub_self, List.range'_zero, Nat.add_sub_cancel_left, List.range'_one, h3]) (hround k x _ _ _ hI hx (fun h' n' hn' hI' => st_gn hn' rfl ?_) (fun h' n' hn' hq => st_gn hn' rfl ?_))
      · refine wB1 (wa h0 (wa h1 (wa h3 wk))) ?_
        refine ⟨k, by omega, by omega, ?_, ?_, ?_, hI'⟩
        all_goals simp [upd_ap, h0, h1]
      · refine wB1 (wa h0 (wa h1 h3)) ?_
        exact hq
  · simp [upd_ap, argsT, hI]
end Go.Proofs.Bv
namespace Go.Proofs.Bv
open Go
theorem ok281 : codeOk 32 (Tryz.f281.body.getD .skip) = true := by kernel_rfl
theorem gf356L (G : Nat → Option (List AV)) (l : List Int) (hl : l.length ≤ 140737488355328) (b : Nat) (L : LoopA) (J : Nat → Heap → Nat → Prop) (Q : AV → Heap → Nat → Prop)
    (hround : ∀ k x h n (K : AV → Heap → Nat → Prop), J (k + 1) h n → h b = some (.loop L) → l[k]? = some x → (∀ h' n', n ≤ n' → J k h' n' → h' b = some (.loop L) → K (.sc (.bool true)) h' n') → (∀ h' n', n ≤ n' → Q (.tup []) h' n' → K (.sc (.bool false)) h' n') →
      Wk (Cf G) (.fn (.yield b) []) [.sc (.int .i64 k), .sc (.int .u32 x)] h n K)
    (hend : ∀ h n, J 0 h n → h b = some (.loop L) → Q (.tup []) h n) {h : Heap} {n : Nat} (hJ : J l.length h n) (hL : h b = some (.loop L)) : Gf (Cf G) 356 [.fn (.yield b) [], .pptr [.psl (u32s l) l.length] 0] h n Q :=
  gf356 G l hl b (fun k h n => J k h n ∧ h b = some (.loop L)) Q (fun k x h n K hI hx hT hF => hround k x h n K hI.1 hI.2 hx (fun h' n' hn hj hl => hT h' n' hn ⟨hj, hl⟩) hF) (fun h n hI => hend h n hI.1 hI.2) ⟨hJ, hL⟩
theorem rep_one (k : Nat) : rep k [AV.sc (.int .u32 0)] = u32s (List.replicate k 0) := by
  induction k with
  | zero => rfl
  | succ k ih => simp only [rep, ih, List.replicate_succ, u32s, List.map_cons, List.singleton_append]
theorem u32s_app (a b : List Int) : u32s (a ++ b) = u32s a ++ u32s b := by simp [u32s]
theorem store_small (k : Nat) (q : Int) (Q : List Int) : storeA (u32s (List.replicate (k + 1) 0 ++ Q)) (0 + k * 1) [.sc (.int .u32 q)] = u32s (List.replicate k 0 ++ q :: Q) := by
  have e : (u32s (List.replicate (k + 1) 0 ++ Q)) = u32s (List.replicate k 0) ++ (.sc (.int .u32 0) :: u32s Q) := by
    rw [u32s_app, List.replicate_succ', u32s_app, List.append_assoc]
    rfl
  have hl : (u32s (List.replicate k 0)).length = k := by simp [u32s]
  simp only [storeA, Nat.zero_add, Nat.mul_one, e, List.length_singleton]
  rw [List.take_append_of_le_length (by omega), List.take_of_length_le (by omega), List.drop_append, List.drop_of_length_le (by omega), hl]
  simp [u32s]
set_option maxHeartbeats 4000000 in
set_option maxRecDepth 100000 in
theorem pc281 (G : Nat → Option (List AV)) (l : List Int) (d : Int) (hl : l.length * 4 ≤ 140737488355328) (hL : Limbs l) (hd : 0 < d ∧ d ≤ 4294967295) :
    Pc (Cf G) 281 [.psl (u32s l) l.length, .sc (.int .u32 d)] (.tup [.psl (u32s (trimL (dmQ l d))) (trimL (dmQ l d)).length, .sc (.int .u32 (nv l % d))]) := by
  have hc := pc331 G (u32s l) l.length
  have hby : l.length * 4 ≤ 140737488355328 ∧ l.length ≤ 140737488355328 := by omega
  refine Pc_of (Gf_enter (C := Cf G) Tryz.func281 rfl ok281 (Nat.le_of_ble_eq_true rfl) ?_)
  simp only [Tryz.f281, Option.getD_some]
  refine wC1 (wa @rep_one (wa hby.1 hby.2)) (wa hc trivial) ?_
  refine st_abs (fun T => T 2 = .ptr 0 0 ∧ T 3 = .ptr 1 0 ∧ T 6 = .ptr 3 0 ∧ T 7 = .ptr 4 0 ∧ T 13 = .fn (.func 356) [.pptr [.psl (u32s l) l.length] 0]) ⟨rfl, rfl, rfl, rfl, rfl⟩ ?_
  rintro T ⟨t2, t3, t6, t7, t13⟩
  refine st_range' (by simp only [vop, val, argsT, upd_ap, Nat.reduceEqDiff, if_true, if_false, ite_true, ite_false, reduceIte, loadAt, loadA, AV.cells, AV.one, List.all_cons, List.all_nil, ofV, ofCell, plain, List.getElem?_cons_zero, List.getElem?_cons_succ, List.getElem?_toArray, Option.getD_some, Bool.not_true, Bool.not_false, Bool.false_eq_true, Bool.and_true, Bool.true_and, Bool.and_self, Nat.zero_add, Option.map_some, Option.bind_some, List.map_cons, List.map_nil, ev_add, ev_sub, ev_mul, ev_lss, ev_leq, ev_gtr, ev_geq, ev_eql, ev_neq, ev_seql, ev_sneq, ev_sleq, ev_slss, ev_not, ev_min, ev_max, asNat_nat, asNat_zero, asNat_one, asNat_two, asNat_three, vb_len, List.length_cons, List.length_nil, Nat.reduceAdd, Nat.reduceLeDiff, Nat.reduceMul, Int.reduceEq, Int.reduceLT, Int.reduceLE, Int.reduceNeg, Int.reduceAdd, Int.reduceSub, Nat.reduceLT, decide_true, decide_false, not_true_eq_false, not_false_eq_true, and_self, and_true, true_and, storeA, List.take_zero, List.drop_succ_cons, List.drop_zero, List.nil_append, List.append_nil, List.take_succ_cons, List.cons_append, cut_cons, cut_zero, cut_skip, tAt, hHide, hAt, upsAt, List.contains_cons, List.contains_nil, Nat.reduceBEq, Bool.or_true, Bool.true_or, Bool.or_false, Bool.false_or, Bool.or_self, Bool.and_true, Bool.true_and, Bool.and_false, Bool.false_and, beq_self_eq_true (α := Nat), Option.some_beq_some, Option.none_beq_some, Option.some_beq_none, Bool.false_eq_true, List.all_nil, touch, touchB, Nat.sub_self, List.range'_zero, Nat.add_sub_cancel_left, List.range'_one, t13]; with_reducible rfl) ?_
  refine gf356L G l (by omega) _ _ (fun k h n => k ≤ l.length ∧ 6 ≤ n ∧ h 0 = some (.cells [.psl (u32s l) l.length] 0 false) ∧ h 1 = some (.cells [.sc (.int .u32 d)] 0 false) ∧ h 2 = some (.cells (u32s (List.replicate k 0 ++ dmQ (l.drop k) d)) 1 false) ∧ h 3 = some (.cells [.osl 2 0 l.length] 0 false) ∧ h 4 = some (.cells [.sc (.int .u32 (nv (l.drop k) % d))] 0 false)) _ ?_ ?_ ⟨Nat.le_refl _, Nat.le_refl _, rfl, rfl, ?_, rfl, ?_⟩ rfl
  · rintro k x h n K ⟨hk, h6, q0, q1, q2, q3, q4⟩ hLp hx hT hF
    have hm0 := Int.emod_nonneg (nv (l.drop (k + 1))) (show d ≠ 0 by omega)
    have hm1 := Int.emod_lt_of_pos (nv (l.drop (k + 1))) (show 0 < d by omega)
    have hxl := hL x (List.mem_of_getElem? hx)
    have hx' := u32s_at hx
    have hklt : k < l.length := by omega
    have hdk : l.drop k = x :: l.drop (k + 1) := by
      rw [List.getElem?_eq_some_iff] at hx
      obtain ⟨h1, h2⟩ := hx
      rw [List.drop_eq_getElem_cons h1, h2]
    have hdiv := pc336 G (nv (l.drop (k + 1)) % d) x d ⟨hm0, hm1⟩ hxl hd.2
    have hst := store_small k ((nv (l.drop (k + 1)) % d * 4294967296 + x) / d) (dmQ (l.drop (k + 1)) d)
    have hlen : (u32s (List.replicate (k + 1) 0 ++ dmQ (l.drop (k + 1)) d)).length = l.length := by
      simp [u32s, dmQ_len]
      omega
    have hle : k * 1 + 1 ≤ l.length := by omega
    simp only [storeA, Nat.zero_add, List.length_singleton] at hst
    refine Wk_yield hLp (by kernel_rfl) rfl ?_
    refine wB1 hLp ?_
    refine roundMid_of hLp rfl ?_
    refine gC1 (wa t2 (wa t3 (wa t6 (wa t7 (wa hLp (wa q0 (wa q1 (wa q2 (wa q3 (wa q4 (wa hx' (wa hklt (wa hst (wa hlen hle)))))))))))))) (wa hdiv trivial) ?_
    have hdm : (nv (l.drop (k + 1)) % d * 4294967296 + x) % d = nv (l.drop k) % d := by rw [hdk, nv_mod_cons]
    have hdq : u32s (List.replicate k 0 ++ dmQ (l.drop k) d) = u32s (List.replicate k 0 ++ (nv (l.drop (k + 1)) % d * 4294967296 + x) / d :: dmQ (l.drop (k + 1)) d) := by rw [hdk]; rfl
    refine roundEnd_norm (by simp only [vop, val, argsT, upd_ap, Nat.reduceEqDiff, if_true, if_false, ite_true, ite_false, reduceIte, loadAt, loadA, AV.cells, AV.one, List.all_cons, List.all_nil, ofV, ofCell, plain, List.getElem?_cons_zero, List.getElem?_cons_succ, List.getElem?_toArray, Option.getD_some, Bool.not_true, Bool.not_false, Bool.false_eq_true, Bool.and_true, Bool.true_and, Bool.and_self, Nat.zero_add, Option.map_some, Option.bind_some, List.map_cons, List.map_nil, ev_add, ev_sub, ev_mul, ev_lss, ev_leq, ev_gtr, ev_geq, ev_eql, ev_neq, ev_seql, ev_sneq, ev_sleq, ev_slss, ev_not, ev_min, ev_max, asNat_nat, asNat_zero, asNat_one, asNat_two, asNat_three, vb_len, List.length_cons, List.length_nil, Nat.reduceAdd, Nat.reduceLeDiff, Nat.reduceMul, Int.reduceEq, Int.reduceLT, Int.reduceLE, Int.reduceNeg, Int.reduceAdd, Int.reduceSub, Nat.reduceLT, decide_true, decide_false, not_true_eq_false, not_false_eq_true, and_self, and_true, true_and, storeA, List.take_zero, List.drop_succ_cons, List.drop_zero, List.nil_append, List.append_nil, List.take_succ_cons, List.cons_append, cut_cons, cut_zero, cut_skip, tAt, hHide, hAt, upsAt, List.contains_cons, List.contains_nil, Nat.reduceBEq, Bool.or_true, Bool.true_or, Bool.or_false, Bool.false_or, Bool.or_self, Bool.and_true, Bool.true_and, Bool.and_false, Bool.false_and, beq_self_eq_true (α := Nat), Option.some_beq_some, Option.none_beq_some, Option.some_beq_none, Bool.false_eq_true, List.all_nil, touch, touchB, Nat.sub_self, List.range'_zero, Nat.add_sub_cancel_left, List.range'_one]; with_reducible rfl) ?_
    refine hT _ _ (Nat.le_refl _) ⟨by omega, h6, ?_, ?_, ?_, ?_, ?_⟩ ?_
    · simp only [vop, val, argsT, upd_ap, Nat.reduceEqDiff, if_true, if_false, ite_true, ite_false, reduceIte, loadAt, loadA, AV.cells, AV.one, List.all_cons, List.all_nil, ofV, ofCell, plain, List.getElem?_cons_zero, List.getElem?_cons_succ, List.getElem?_toArray, Option.getD_some, Bool.not_true, Bool.not_false, Bool.false_eq_true, Bool.and_true, Bool.true_and, Bool.and_self, Nat.zero_add, Option.map_some, Option.bind_some, List.map_cons, List.map_nil, ev_add, ev_sub, ev_mul, ev_lss, ev_leq, ev_gtr, ev_geq, ev_eql, ev_neq, ev_seql, ev_sneq, ev_sleq, ev_slss, ev_not, ev_min, ev_max, asNat_nat, asNat_zero, asNat_one, asNat_two, asNat_three, vb_len, List.length_cons, List.length_nil, Nat.reduceAdd, Nat.reduceLeDiff, Nat.reduceMul, Int.reduceEq, Int.reduceLT, Int.reduceLE, Int.reduceNeg, Int.reduceAdd, Int.reduceSub, Nat.reduceLT, decide_true, decide_false, not_true_eq_false, not_false_eq_true, and_self, and_true, true_and, storeA, List.take_zero, List.drop_succ_cons, List.drop_zero, List.nil_append, List.append_nil, List.take_succ_cons, List.cons_append, cut_cons, cut_zero, cut_skip, tAt, hHide, hAt, upsAt, List.contains_cons, List.contains_nil, Nat.reduceBEq, Bool.or_true, Bool.true_or, Bool.or_false, Bool.false_or, Bool.or_self, Bool.and_true, Bool.true_and, Bool.and_false, Bool.false_and, beq_self_eq_true (α := Nat), Option.some_beq_some, Option.none_beq_some, Option.some_beq_none, Bool.false_eq_true, List.all_nil, touch, touchB, Nat.sub_self, List.range'_zero, Nat.add_sub_cancel_left, List.range'_one, q0]
    · simp only [vop, val, argsT, upd_ap, Nat.reduceEqDiff, if_true, if_false, ite_true, ite_false, reduceIte, loadAt, loadA, AV.cells, AV.one, List.all_cons, List.all_nil, ofV, ofCell, plain, List.getElem?_cons_zero, List.getElem?_cons_succ, List.getElem?_toArray, Option.getD_some, Bool.not_true, Bool.not_false, Bool.false_eq_true, Bool.and_true, Bool.true_and, Bool.and_self, Nat.zero_add, Option.map_some, Option.bind_some, List.map_cons, List.map_nil, ev_add, ev_sub, ev_mul, ev_lss, ev_leq, ev_gtr, ev_geq, ev_eql, ev_neq, ev_seql, ev_sneq, ev_sleq, ev_slss, ev_not, ev_min, ev_max, asNat_nat, asNat_zero, asNat_one, asNat_two, asNat_three, vb_len, List.length_cons, List.length_nil, Nat.reduceAdd, Nat.reduceLeDiff, Nat.reduceMul, Int.reduceEq, Int.reduceLT, Int.reduceLE, Int.reduceNeg, Int.reduceAdd, Int.reduceSub, Nat.reduceLT, decide_true, decide_false, not_true_eq_false, not_false_eq_true, and_self, and_true, true_and, storeA, List.take_zero, List.drop_succ_cons, List.drop_zero, List.nil_append, List.append_nil, List.take_succ_cons, List.cons_append, cut_cons, cut_zero, cut_skip, tAt, hHide, hAt, upsAt, List.contains_cons, List.contains_nil, Nat.reduceBEq, Bool.or_true, Bool.true_or, Bool.or_false, Bool.false_or, Bool.or_self, Bool.and_true, Bool.true_and, Bool.and_false, Bool.false_and, beq_self_eq_true (α := Nat), Option.some_beq_some, Option.none_beq_some, Option.some_beq_none, Bool.false_eq_true, List.all_nil, touch, touchB, Nat.sub_self, List.range'_zero, Nat.add_sub_cancel_left, List.range'_one, q1]
    · simp only [vop, val, argsT, upd_ap, Nat.reduceEqDiff, if_true, if_false, ite_true, ite_false, reduceIte, loadAt, loadA, AV.cells, AV.one, List.all_cons, List.all_nil, ofV, ofCell, plain, List.getElem?_cons_zero, List.getElem?_cons_succ, List.getElem?_toArray, Option.getD_some, Bool.not_true, Bool.not_false, Bool.false_eq_true, Bool.and_true, Bool.true_and, Bool.and_self, Nat.zero_add, Option.map_some, Option.bind_some, List.map_cons, List.map_nil, ev_add, ev_sub, ev_mul, ev_lss, ev_leq, ev_gtr, ev_geq, ev_eql, ev_neq, ev_seql, ev_sneq, ev_sleq, ev_slss, ev_not, ev_min, ev_max, asNat_nat, asNat_zero, asNat_one, asNat_two, asNat_three, vb_len, List.length_cons, List.length_nil, Nat.reduceAdd, Nat.reduceLeDiff, Nat.reduceMul, Int.reduceEq, Int.reduceLT, Int.reduceLE, Int.reduceNeg, Int.reduceAdd, Int.reduceSub, Nat.reduceLT, decide_true, decide_false, not_true_eq_false, not_false_eq_true, and_self, and_true, true_and, storeA, List.take_zero, List.drop_succ_cons, List.drop_zero, List.nil_append, List.append_nil, List.take_succ_cons, List.cons_append, cut_cons, cut_zero, cut_skip, tAt, hHide, hAt, upsAt, List.contains_cons, List.contains_nil, Nat.reduceBEq, Bool.or_true, Bool.true_or, Bool.or_false, Bool.false_or, Bool.or_self, Bool.and_true, Bool.true_and, Bool.and_false, Bool.false_and, beq_self_eq_true (α := Nat), Option.some_beq_some, Option.none_beq_some, Option.some_beq_none, Bool.false_eq_true, List.all_nil, touch, touchB, Nat.sub_self, List.range'_zero, Nat.add_sub_cancel_left, List.range'_one, hst, hdq]
    · simp only [vop, val, argsT, upd_ap, Nat.reduceEqDiff, if_true, if_false, ite_true, ite_false, reduceIte, loadAt, loadA, AV.cells, AV.one, List.all_cons, List.all_nil, ofV, ofCell, plain, List.getElem?_cons_zero, List.getElem?_cons_succ, List.getElem?_toArray, Option.getD_some, Bool.not_true, Bool.not_false, Bool.false_eq_true, Bool.and_true, Bool.true_and, Bool.and_self, Nat.zero_add, Option.map_some, Option.bind_some, List.map_cons, List.map_nil, ev_add, ev_sub, ev_mul, ev_lss, ev_leq, ev_gtr, ev_geq, ev_eql, ev_neq, ev_seql, ev_sneq, ev_sleq, ev_slss, ev_not, ev_min, ev_max, asNat_nat, asNat_zero, asNat_one, asNat_two, asNat_three, vb_len, List.length_cons, List.length_nil, Nat.reduceAdd, Nat.reduceLeDiff, Nat.reduceMul, Int.reduceEq, Int.reduceLT, Int.reduceLE, Int.reduceNeg, Int.reduceAdd, Int.reduceSub, Nat.reduceLT, decide_true, decide_false, not_true_eq_false, not_false_eq_true, and_self, and_true, true_and, storeA, List.take_zero, List.drop_succ_cons, List.drop_zero, List.nil_append, List.append_nil, List.take_succ_cons, List.cons_append, cut_cons, cut_zero, cut_skip, tAt, hHide, hAt, upsAt, List.contains_cons, List.contains_nil, Nat.reduceBEq, Bool.or_true, Bool.true_or, Bool.or_false, Bool.false_or, Bool.or_self, Bool.and_true, Bool.true_and, Bool.and_false, Bool.false_and, beq_self_eq_true (α := Nat), Option.some_beq_some, Option.none_beq_some, Option.some_beq_none, Bool.false_eq_true, List.all_nil, touch, touchB, Nat.sub_self, List.range'_zero, Nat.add_sub_cancel_left, List.range'_one, q3]
    · simp only [vop, val, argsT, upd_ap, Nat.reduceEqDiff, if_true, if_false, ite_true, ite_false, reduceIte, loadAt, loadA, AV.cells, AV.one, List.all_cons, List.all_nil, ofV, ofCell, plain, List.getElem?_cons_zero, List.getElem?_cons_succ, List.getElem?_toArray, Option.getD_some, Bool.not_true, Bool.not_false, Bool.false_eq_true, Bool.and_true, Bool.true_and, Bool.and_self, Nat.zero_add, Option.map_some, Option.bind_some, List.map_cons, List.map_nil, ev_add, ev_sub, ev_mul, ev_lss, ev_leq, ev_gtr, ev_geq, ev_eql, ev_neq, ev_seql, ev_sneq, ev_sleq, ev_slss, ev_not, ev_min, ev_max, asNat_nat, asNat_zero, asNat_one, asNat_two, asNat_three, vb_len, List.length_cons, List.length_nil, Nat.reduceAdd, Nat.reduceLeDiff, Nat.reduceMul, Int.reduceEq, Int.reduceLT, Int.reduceLE, Int.reduceNeg, Int.reduceAdd, Int.reduceSub, Nat.reduceLT, decide_true, decide_false, not_true_eq_false, not_false_eq_true, and_self, and_true, true_and, storeA, List.take_zero, List.drop_succ_cons, List.drop_zero, List.nil_append, List.append_nil, List.take_succ_cons, List.cons_append, cut_cons, cut_zero, cut_skip, tAt, hHide, hAt, upsAt, List.contains_cons, List.contains_nil, Nat.reduceBEq, Bool.or_true, Bool.true_or, Bool.or_false, Bool.false_or, Bool.or_self, Bool.and_true, Bool.true_and, Bool.and_false, Bool.false_and, beq_self_eq_true (α := Nat), Option.some_beq_some, Option.none_beq_some, Option.some_beq_none, Bool.false_eq_true, List.all_nil, touch, touchB, Nat.sub_self, List.range'_zero, Nat.add_sub_cancel_left, List.range'_one, hdm]
    · simp only [vop, val, argsT, upd_ap, Nat.reduceEqDiff, if_true, if_false, ite_true, ite_false, reduceIte, loadAt, loadA, AV.cells, AV.one, List.all_cons, List.all_nil, ofV, ofCell, plain, List.getElem?_cons_zero, List.getElem?_cons_succ, List.getElem?_toArray, Option.getD_some, Bool.not_true, Bool.not_false, Bool.false_eq_true, Bool.and_true, Bool.true_and, Bool.and_self, Nat.zero_add, Option.map_some, Option.bind_some, List.map_cons, List.map_nil, ev_add, ev_sub, ev_mul, ev_lss, ev_leq, ev_gtr, ev_geq, ev_eql, ev_neq, ev_seql, ev_sneq, ev_sleq, ev_slss, ev_not, ev_min, ev_max, asNat_nat, asNat_zero, asNat_one, asNat_two, asNat_three, vb_len, List.length_cons, List.length_nil, Nat.reduceAdd, Nat.reduceLeDiff, Nat.reduceMul, Int.reduceEq, Int.reduceLT, Int.reduceLE, Int.reduceNeg, Int.reduceAdd, Int.reduceSub, Nat.reduceLT, decide_true, decide_false, not_true_eq_false, not_false_eq_true, and_self, and_true, true_and, storeA, List.take_zero, List.drop_succ_cons, List.drop_zero, List.nil_append, List.append_nil, List.take_succ_cons, List.cons_append, cut_cons, cut_zero, cut_skip, tAt, hHide, hAt, upsAt, List.contains_cons, List.contains_nil, Nat.reduceBEq, Bool.or_true, Bool.true_or, Bool.or_false, Bool.false_or, Bool.or_self, Bool.and_true, Bool.true_and, Bool.and_false, Bool.false_and, beq_self_eq_true (α := Nat), Option.some_beq_some, Option.none_beq_some, Option.some_beq_none, Bool.false_eq_true, List.all_nil, touch, touchB, Nat.sub_self, List.range'_zero, Nat.add_sub_cancel_left, List.range'_one]
  · rintro h n ⟨_, h6, q0, q1, q2, q3, q4⟩ hLp
    refine rangeEnd_norm (by omega) hLp rfl rfl ?_
    have hc2 := pc183 G (dmQ l d) (by rw [dmQ_len]; omega)
    simp only [List.replicate_zero, List.nil_append, List.drop_zero] at q2 q4
    rw [dmQ_len] at hc2
    have hl2 : (u32s (dmQ l d)).length = l.length := by simp [u32s, dmQ_len]
    refine gF1 (wa t2 (wa t3 (wa t6 (wa t7 (wa hLp (wa q2 (wa q3 (wa q4 (wa hl2 @Nat.mul_one))))))))) (wa hc2 trivial) ?_
    simp only [one1, frz_t, mapF, frz_s, frz_l, Option.map_some, List.append_nil]
  · simp [upd_ap, dmQ]
  · simp [upd_ap, nv]
end Go.Proofs.Bv
namespace Go.Proofs.Bv
open Go
def cmpR : List Int → List Int → Int
  | x :: a, y :: b => if cmpR a b = 0 then cmpI x y else cmpR a b
  | _, _ => 0
def cmpL (a b : List Int) : Int := if a.length = b.length then cmpR a b else cmpI a.length b.length
theorem cmpR_drop {c : Int} (hc : c ≠ 0) : (j : Nat) → (a b : List Int) → cmpR (a.drop j) (b.drop j) = c → cmpR a b = c
  | 0, a, b, h => h
  | j + 1, [], b, h => by simp [cmpR] at h; exact absurd h.symm hc
  | j + 1, x :: a, [], h => by simp [cmpR] at h; exact absurd h.symm hc
  | j + 1, x :: a, y :: b, h => by
    have := cmpR_drop hc j a b (by simpa using h)
    simp only [cmpR, this]
    rw [if_neg hc]
theorem ok327 : codeOk 32 (Tryz.f327.body.getD .skip) = true := by kernel_rfl
set_option maxHeartbeats 4000000 in
set_option maxRecDepth 100000 in
theorem pc327 (G : Nat → Option (List AV)) (a b : List Int) (ha : a.length ≤ 140737488355328) (hb : b.length ≤ 140737488355328) :
    Pc (Cf G) 327 [.psl (u32s a) a.length, .psl (u32s b) b.length] (.sc (.int .i64 (cmpL a b))) := by
  have hc := pc331 G (u32s a) a.length
  have hl := pc190 G a.length b.length
  refine Pc_of (Gf_enter (C := Cf G) Tryz.func327 rfl ok327 (Nat.le_of_ble_eq_true rfl) ?_)
  simp only [Tryz.f327, Option.getD_some]
  by_cases hab : a.length = b.length
  · have e0 : cmpI (a.length : Int) (b.length : Int) = 0 := by unfold cmpI; omega
    rw [e0] at hl
    have eL : cmpL a b = cmpR a b := by unfold cmpL; rw [if_pos hab]
    rw [eL]
    refine wC1 trivial (wa hc (wa hl trivial)) ?_
    refine st_abs (fun T => T 2 = .ptr 0 0 ∧ T 3 = .ptr 1 0 ∧ T 4 = .ptr 2 0 ∧ T 17 = .fn (.func 356) [.pptr [.psl (u32s a) a.length] 0]) ⟨rfl, rfl, rfl, rfl⟩ ?_
    rintro T ⟨t2, t3, t4, t17⟩
    refine st_range' (by simp only [vop, val, argsT, upd_ap, Nat.reduceEqDiff, if_true, if_false, ite_true, ite_false, reduceIte, loadAt, loadA, AV.cells, AV.one, List.all_cons, List.all_nil, ofV, ofCell, plain, List.getElem?_cons_zero, List.getElem?_cons_succ, List.getElem?_toArray, Option.getD_some, Bool.not_true, Bool.not_false, Bool.false_eq_true, Bool.and_true, Bool.true_and, Bool.and_self, Nat.zero_add, Option.map_some, Option.bind_some, List.map_cons, List.map_nil, ev_add, ev_sub, ev_mul, ev_lss, ev_leq, ev_gtr, ev_geq, ev_eql, ev_neq, ev_seql, ev_sneq, ev_sleq, ev_slss, ev_not, ev_min, ev_max, asNat_nat, asNat_zero, asNat_one, asNat_two, asNat_three, vb_len, List.length_cons, List.length_nil, Nat.reduceAdd, Nat.reduceLeDiff, Nat.reduceMul, Int.reduceEq, Int.reduceLT, Int.reduceLE, Int.reduceNeg, Int.reduceAdd, Int.reduceSub, Nat.reduceLT, decide_true, decide_false, not_true_eq_false, not_false_eq_true, and_self, and_true, true_and, storeA, List.take_zero, List.drop_succ_cons, List.drop_zero, List.nil_append, List.append_nil, List.take_succ_cons, List.cons_append, cut_cons, cut_zero, cut_skip, tAt, hHide, hAt, upsAt, List.contains_cons, List.contains_nil, Nat.reduceBEq, Bool.or_true, Bool.true_or, Bool.or_false, Bool.false_or, Bool.or_self, Bool.and_true, Bool.true_and, Bool.and_false, Bool.false_and, beq_self_eq_true (α := Nat), Option.some_beq_some, Option.none_beq_some, Option.some_beq_none, Bool.false_eq_true, List.all_nil, touch, touchB, Nat.sub_self, List.range'_zero, Nat.add_sub_cancel_left, List.range'_one, t17]; with_reducible rfl) ?_
    refine gf356L G a ha _ _ (fun k h n => k ≤ a.length ∧ 4 ≤ n ∧ cmpR (a.drop k) (b.drop k) = 0 ∧ h 0 = some (.cells [.psl (u32s a) a.length] 0 false) ∧ h 1 = some (.cells [.psl (u32s b) b.length] 0 false) ∧ h 2 = some (.cells [.sc (.int .i64 0)] 0 false)) _ ?_ ?_ ⟨Nat.le_refl _, Nat.le_refl _, ?_, rfl, rfl, rfl⟩ rfl
    · rintro k x h n K ⟨hk, h4, hcm, q0, q1, q2⟩ hLp hx hT hF
      have hka : k < a.length := by omega
      have hkb : k < b.length := by omega
      obtain ⟨y, hy⟩ : ∃ y, b[k]? = some y := ⟨b[k]'(by omega), List.getElem?_eq_getElem (by omega)⟩
      have hx' := u32s_at hx
      have hy' := u32s_at hy
      have hda : a.drop k = x :: a.drop (k + 1) := by
        rw [List.getElem?_eq_some_iff] at hx
        obtain ⟨h1, h2⟩ := hx
        rw [List.drop_eq_getElem_cons h1, h2]
      have hdb : b.drop k = y :: b.drop (k + 1) := by
        rw [List.getElem?_eq_some_iff] at hy
        obtain ⟨h1, h2⟩ := hy
        rw [List.drop_eq_getElem_cons h1, h2]
      have hcc : cmpR (a.drop k) (b.drop k) = cmpI x y := by rw [hda, hdb, cmpR, if_pos hcm]
      have hcmp := pc354 G x y
      refine Wk_yield hLp (by kernel_rfl) rfl ?_
      refine wB1 hLp ?_
      refine roundMid_of hLp rfl ?_
      (focus refine wC2 (wa t2 (wa t3 (wa t4 (wa hLp (wa q0 (wa q1 (wa q2 (wa hx' (wa hy' (wa hka hkb)))))))))) (wa hcmp trivial) ?_ ?_; intro hb; rotate_left; intro hb; rotate_left)
      · refine roundEnd_ret rfl ?_
        refine hF _ _ (Nat.le_refl _) (rangeEnd_ret h4 rfl rfl ?_)
        refine wB1 (wa t2 (wa t3 (wa t4 (wa hLp (wa q0 (wa q1 q2)))))) ?_
        simp only [one1, frz_s, Option.map_some]
        rw [cmpR_drop (by simpa using hb) k a b hcc]
      · refine roundEnd_norm rfl ?_
        refine hT _ _ (Nat.le_refl _) ⟨by omega, h4, by rw [hcc]; simpa using hb, q0, q1, q2⟩ rfl
    · rintro h n ⟨_, h4, hcm, q0, q1, q2⟩ hLp
      refine rangeEnd_norm h4 hLp rfl rfl ?_
      simp only [List.drop_zero] at hcm
      refine wB1 (wa t2 (wa t3 (wa t4 (wa hLp (wa q0 (wa q1 q2)))))) ?_
      simp only [one1, frz_s, Option.map_some, hcm]
    · rw [List.drop_of_length_le (Nat.le_refl _), List.drop_of_length_le (by omega)]
      rfl
  · have eL : cmpL a b = cmpI a.length b.length := by unfold cmpL; rw [if_neg hab]
    have hne : ¬ cmpI (a.length : Int) (b.length : Int) = 0 := by unfold cmpI; omega
    rw [eL]
    refine wC1 hne (wa hl trivial) ?_
    simp only [one1, frz_s, Option.map_some]
end Go.Proofs.Bv
namespace Go.Proofs.Bv
open Go
theorem ok111 : codeOk 4 (Tryz.f111.body.getD .skip) = true := by kernel_rfl
theorem pc111 (G : Nat → Option (List AV)) (s : ByteArray) : Pc (Cf G) 111 [.sc (.string s)] (.fn (.func 171) [.pptr [.sc (.string s)] 0]) := by
  refine Pc_of (Gf_enter (C := Cf G) Tryz.func111 rfl ok111 (Nat.le_of_ble_eq_true rfl) ?_)
  simp only [Tryz.f111, Option.getD_some]
  refine wB1 @Array.size_empty.{0} ?_
  all_goals rfl
end Go.Proofs.Bv
namespace Go.Proofs.Bv
open Go
def chkFrom (s : ByteArray) (p : Nat) : Int × Int :=
  if h : p < s.size then (if runeAt s p < 0 then ((p : Int), 61) else chkFrom s (p + wideAt s p)) else ((s.size : Int), 0)
termination_by s.size - p
decreasing_by
  have := wide_rng s p h
  omega
theorem gf171L (G : Nat → Option (List AV)) (s : ByteArray) (hn : s.size ≤ 140737488355328) (b : Nat) (L : LoopA) (J : Nat → Heap → Nat → Prop) (Q : AV → Heap → Nat → Prop)
    (hround : ∀ p h n (K : AV → Heap → Nat → Prop), J p h n → h b = some (.loop L) → p < s.size → (∀ h' n', n ≤ n' → J (p + wideAt s p) h' n' → h' b = some (.loop L) → K (.sc (.bool true)) h' n') → (∀ h' n', n ≤ n' → Q (.tup []) h' n' → K (.sc (.bool false)) h' n') →
      Wk (Cf G) (.fn (.yield b) []) [.sc (.int .i64 p), .sc (.int .i32 (runeAt s p))] h n K)
    (hend : ∀ h n, J s.size h n → h b = some (.loop L) → Q (.tup []) h n) {h : Heap} {n : Nat} (hJ : J 0 h n) (hL : h b = some (.loop L)) : Gf (Cf G) 171 [.fn (.yield b) [], .pptr [.sc (.string s)] 0] h n Q :=
  gf171 G s hn b (fun p h n => J p h n ∧ h b = some (.loop L)) Q (fun p h n K hI hlt hT hF => hround p h n K hI.1 hI.2 hlt (fun h' n' hn hj hl => hT h' n' hn ⟨hj, hl⟩) hF) (fun h n hI => hend h n hI.1 hI.2) ⟨hJ, hL⟩
theorem ok110 : codeOk 15 (Tryz.f110.body.getD .skip) = true := by kernel_rfl
set_option maxHeartbeats 2000000 in
set_option maxRecDepth 100000 in
theorem pc110 (G : Nat → Option (List AV)) (s : ByteArray) (hn : s.size ≤ 140737488355328) : Pc (Cf G) 110 [.sc (.string s)] (.tup [.sc (.int .i64 (chkFrom s 0).1), .sc (.int .i64 (chkFrom s 0).2)]) := by
  have hc := pc111 G s
  refine Pc_of (Gf_enter (C := Cf G) Tryz.func110 rfl ok110 (Nat.le_of_ble_eq_true rfl) ?_)
  simp only [Tryz.f110, Option.getD_some]
  refine wC1 trivial (wa hc trivial) ?_
  refine st_range (by simp only [vop, val, argsT, upd_ap, Nat.reduceEqDiff, if_true, if_false, ite_true, ite_false, reduceIte, loadAt, loadA, AV.cells, AV.one, List.all_cons, List.all_nil, ofV, ofCell, plain, List.getElem?_cons_zero, List.getElem?_cons_succ, List.getElem?_toArray, Option.getD_some, Bool.not_true, Bool.not_false, Bool.false_eq_true, Bool.and_true, Bool.true_and, Bool.and_self, Nat.zero_add, Option.map_some, Option.bind_some, List.map_cons, List.map_nil, ev_add, ev_sub, ev_mul, ev_lss, ev_leq, ev_gtr, ev_geq, ev_eql, ev_neq, ev_seql, ev_sneq, ev_sleq, ev_slss, ev_not, ev_min, ev_max, asNat_nat, asNat_zero, asNat_one, asNat_two, asNat_three, vb_len, List.length_cons, List.length_nil, Nat.reduceAdd, Nat.reduceLeDiff, Nat.reduceMul, Int.reduceEq, Int.reduceLT, Int.reduceLE, Int.reduceNeg, Int.reduceAdd, Int.reduceSub, Nat.reduceLT, decide_true, decide_false, not_true_eq_false, not_false_eq_true, and_self, and_true, true_and, storeA, List.take_zero, List.drop_succ_cons, List.drop_zero, List.nil_append, List.append_nil, List.take_succ_cons, List.cons_append, cut_cons, cut_zero, cut_skip, tAt, hHide, hAt, upsAt, List.contains_cons, List.contains_nil, Nat.reduceBEq, Bool.or_true, Bool.true_or, Bool.or_false, Bool.false_or, Bool.or_self, Bool.and_true, Bool.true_and, Bool.and_false, Bool.false_and, beq_self_eq_true (α := Nat), Option.some_beq_some, Option.none_beq_some, Option.some_beq_none, Bool.false_eq_true, List.all_nil, touch, touchB, Nat.sub_self, List.range'_zero, Nat.add_sub_cancel_left, List.range'_one]; with_reducible rfl) ?_
  refine gf171L G s hn _ _ (fun p h n => 3 ≤ n ∧ chkFrom s p = chkFrom s 0 ∧ h 0 = some (.cells [.sc (.int .i64 0)] 0 false) ∧ h 1 = some (.cells [.sc (.int .i64 0)] 0 false)) _ ?_ ?_ ⟨Nat.le_refl _, rfl, rfl, rfl⟩ rfl
  · rintro p h n K ⟨h3, hch, hh0, hh1⟩ hL hlt hT hF
    have hst : chkFrom s p = if runeAt s p < 0 then ((p : Int), 61) else chkFrom s (p + wideAt s p) := by rw [chkFrom, dif_pos hlt]
    refine Wk_yield hL (by kernel_rfl) rfl ?_
    refine wB1 hL ?_
    refine roundMid_of hL rfl ?_
    (focus refine wB2 (wa hL (wa hh0 hh1)) ?_ ?_; intro hb; rotate_left; intro hb; rotate_left)
    · refine roundEnd_ret rfl ?_
      refine hF _ _ (Nat.le_refl _) (rangeEnd_ret h3 rfl rfl ?_)
      refine wB1 (wa hL (wa hh0 hh1)) ?_
      rw [← hch, hst, if_pos hb]
      rfl
    · refine roundEnd_norm rfl ?_
      refine hT _ _ (Nat.le_refl _) ⟨h3, by rw [← hch, hst, if_neg hb], hh0, hh1⟩ rfl
  · rintro h n ⟨h3, hch, hh0, hh1⟩ hL
    have hst : chkFrom s s.size = ((s.size : Int), 0) := by rw [chkFrom, dif_neg (by omega)]
    refine rangeEnd_norm h3 hL rfl rfl ?_
    refine wB1 (wa hL (wa hh0 hh1)) ?_
    rw [← hch, hst]
    rfl
end Go.Proofs.Bv
namespace Go.Proofs.Bv
open Go
def ints (l : List Int) : List AV := l.map fun x => .sc (.int .i64 x)
theorem ints_len (l : List Int) : (ints l).length = l.length := by simp [ints]
theorem ints_pur : (l : List Int) → purs (ints l) = true
  | [] => rfl
  | _ :: l => by simpa [ints, purs, AV.pur] using ints_pur l
theorem ints_snoc (d : List Int) (x : Int) : ints d ++ [AV.sc (.int .i64 x)] = ints (d ++ [x]) := by simp [ints]
def runesFrom (s : ByteArray) (p : Nat) : List Int := if h : p < s.size then IntKind.i64.wrap (runeAt s p) :: runesFrom s (p + wideAt s p) else []
termination_by s.size - p
decreasing_by
  have := wide_rng s p h
  omega
theorem runes_len (s : ByteArray) (p : Nat) : (runesFrom s p).length ≤ s.size - p := by
  rw [runesFrom]
  split
  · rename_i h
    have := wide_rng s p h
    have := runes_len s (p + wideAt s p)
    simp only [List.length_cons]
    omega
  · simp
termination_by s.size - p
def OwnI (x : AV) (h : Heap) (n lo : Nat) (l : List Int) : Prop := (x = .nilS ∧ l = []) ∨ ∃ b, x = .osl b 0 l.length ∧ h b = some (.cells (ints l) 1 false) ∧ lo ≤ b ∧ b < n
theorem ok60 : codeOk 27 (Tryz.f60.body.getD .skip) = true := by kernel_rfl
theorem ok53 : codeOk 14 (Tryz.f53.body.getD .skip) = true := by kernel_rfl
set_option maxHeartbeats 4000000 in
set_option maxRecDepth 100000 in
theorem pc60 (G : Nat → Option (List AV)) (s : ByteArray) (hn : s.size * 8 ≤ 140737488355328) : Pc (Cf G) 60 [.sc (.string s)] (if (chkFrom s 0).2 = 0 then .tup [.psl (ints (runesFrom s 0)) (runesFrom s 0).length, .sc (.int .i64 0)] else .tup [.psl [] 0, .sc (.int .i64 (chkFrom s 0).2)]) := by
  have h1 := pc110 G s (by omega)
  have h2 := pc111 G s
  generalize (chkFrom s 0).1 = c1 at *
  generalize (chkFrom s 0).2 = c2 at *
  by_cases h0 : c2 = 0
  · subst h0
    rw [if_pos rfl]
    refine Pc_of (Gf_enter (C := Cf G) Tryz.func60 rfl ok60 (Nat.le_of_ble_eq_true rfl) ?_)
    simp only [Tryz.f60, Option.getD_some]
    refine wC1 trivial (wa h1 (wa h2 trivial)) ?_
    refine st_range (by simp only [vop, val, argsT, upd_ap, Nat.reduceEqDiff, if_true, if_false, ite_true, ite_false, reduceIte, loadAt, loadA, AV.cells, AV.one, List.all_cons, List.all_nil, ofV, ofCell, plain, List.getElem?_cons_zero, List.getElem?_cons_succ, List.getElem?_toArray, Option.getD_some, Bool.not_true, Bool.not_false, Bool.false_eq_true, Bool.and_true, Bool.true_and, Bool.and_self, Nat.zero_add, Option.map_some, Option.bind_some, List.map_cons, List.map_nil, ev_add, ev_sub, ev_mul, ev_lss, ev_leq, ev_gtr, ev_geq, ev_eql, ev_neq, ev_seql, ev_sneq, ev_sleq, ev_slss, ev_not, ev_min, ev_max, asNat_nat, asNat_zero, asNat_one, asNat_two, asNat_three, vb_len, List.length_cons, List.length_nil, Nat.reduceAdd, Nat.reduceLeDiff, Nat.reduceMul, Int.reduceEq, Int.reduceLT, Int.reduceLE, Int.reduceNeg, Int.reduceAdd, Int.reduceSub, Nat.reduceLT, decide_true, decide_false, not_true_eq_false, not_false_eq_true, and_self, and_true, true_and, storeA, List.take_zero, List.drop_succ_cons, List.drop_zero, List.nil_append, List.append_nil, List.take_succ_cons, List.cons_append, cut_cons, cut_zero, cut_skip, tAt, hHide, hAt, upsAt, List.contains_cons, List.contains_nil, Nat.reduceBEq, Bool.or_true, Bool.true_or, Bool.or_false, Bool.false_or, Bool.or_self, Bool.and_true, Bool.true_and, Bool.and_false, Bool.false_and, beq_self_eq_true (α := Nat), Option.some_beq_some, Option.none_beq_some, Option.some_beq_none, Bool.false_eq_true, List.all_nil, touch, touchB, Nat.sub_self, List.range'_zero, Nat.add_sub_cancel_left, List.range'_one]; with_reducible rfl) ?_
    refine gf171L G s (by omega) _ _ (fun p h n => 2 ≤ n ∧ p ≤ s.size ∧ ∃ x out, h 0 = some (.cells [x] 0 false) ∧ OwnI x h n 2 out ∧ out ++ runesFrom s p = runesFrom s 0) _ ?_ ?_ ⟨Nat.le_refl _, by omega, .nilS, [], rfl, .inl ⟨rfl, rfl⟩, rfl⟩ rfl
    · rintro p h n K ⟨hn2, hp, x, out, q0, ho, hr⟩ hL hlt hT hF
      have hst : runesFrom s p = IntKind.i64.wrap (runeAt s p) :: runesFrom s (p + wideAt s p) := by rw [runesFrom, dif_pos hlt]
      have hol : out.length + 1 ≤ s.size := by
        have := runes_len s 0
        rw [← hr, hst] at this
        simp at this
        omega
      have hw := wide_rng s p hlt
      have g1 : (out.length + 1) * 8 ≤ 140737488355328 := by omega
      have g2 : out.length + 1 ≤ 140737488355328 := by omega
      have g3 : out.length * 1 ≤ (ints out).length := by rw [ints_len]; omega
      have g4 : cut (ints out) 0 (out.length * 1) = ints out := by rw [cut, List.drop_zero, Nat.mul_one, List.take_of_length_le (by rw [ints_len]; omega)]
      have hr2 : (out ++ [IntKind.i64.wrap (runeAt s p)]) ++ runesFrom s (p + wideAt s p) = runesFrom s 0 := by rw [← hr, hst]; simp
      have hn0 : ¬ n = 0 := by omega
      have hn1 : ¬ n = 1 := by omega
      have h0n : ¬ 0 = n := by omega
      have h1n : ¬ 1 = n := by omega
      have h01 : ¬ 0 = n + 1 := by omega
      have h11 : ¬ 1 = n + 1 := by omega
      refine Wk_yield hL (by kernel_rfl) rfl ?_
      refine wB1 hL ?_
      refine roundMid_of hL rfl ?_
      rcases ho with ⟨rfl, rfl⟩ | ⟨b, rfl, hb, hb2, hbn⟩
      · refine wB1 (wa hL (wa q0 (wa hn0 (wa @hn1 (wa h0n h1n))))) ?_
        refine roundEnd_norm (by simp only [vop, val, argsT, upd_ap, Nat.reduceEqDiff, if_true, if_false, ite_true, ite_false, reduceIte, loadAt, loadA, AV.cells, AV.one, List.all_cons, List.all_nil, ofV, ofCell, plain, List.getElem?_cons_zero, List.getElem?_cons_succ, List.getElem?_toArray, Option.getD_some, Bool.not_true, Bool.not_false, Bool.false_eq_true, Bool.and_true, Bool.true_and, Bool.and_self, Nat.zero_add, Option.map_some, Option.bind_some, List.map_cons, List.map_nil, ev_add, ev_sub, ev_mul, ev_lss, ev_leq, ev_gtr, ev_geq, ev_eql, ev_neq, ev_seql, ev_sneq, ev_sleq, ev_slss, ev_not, ev_min, ev_max, asNat_nat, asNat_zero, asNat_one, asNat_two, asNat_three, vb_len, List.length_cons, List.length_nil, Nat.reduceAdd, Nat.reduceLeDiff, Nat.reduceMul, Int.reduceEq, Int.reduceLT, Int.reduceLE, Int.reduceNeg, Int.reduceAdd, Int.reduceSub, Nat.reduceLT, decide_true, decide_false, not_true_eq_false, not_false_eq_true, and_self, and_true, true_and, storeA, List.take_zero, List.drop_succ_cons, List.drop_zero, List.nil_append, List.append_nil, List.take_succ_cons, List.cons_append, cut_cons, cut_zero, cut_skip, tAt, hHide, hAt, upsAt, List.contains_cons, List.contains_nil, Nat.reduceBEq, Bool.or_true, Bool.true_or, Bool.or_false, Bool.false_or, Bool.or_self, Bool.and_true, Bool.true_and, Bool.and_false, Bool.false_and, beq_self_eq_true (α := Nat), Option.some_beq_some, Option.none_beq_some, Option.some_beq_none, Bool.false_eq_true, List.all_nil, touch, touchB, Nat.sub_self, List.range'_zero, Nat.add_sub_cancel_left, List.range'_one, hn0, hn1, h0n, h1n, h01, h11, hL]; with_reducible rfl) ?_
        refine hT _ _ (by simp only; omega) ⟨by simp only; omega, hw.2, .osl (n + 1) 0 1, [IntKind.i64.wrap (runeAt s p)], ?_, .inr ⟨n + 1, rfl, ?_, by omega, by simp only; omega⟩, ?_⟩ ?_
        · simp [upd_ap, h0n]
        · simp [upd_ap, ints, hn0, hn1]
        · simpa using hr2
        · simp [upd_ap, hL]
      · have hbn' : ¬ b = n := by omega
        have hnb : ¬ n = b := by omega
        have hb0 : ¬ b = 0 := by omega
        have hb1 : ¬ b = 1 := by omega
        have h0b : ¬ 0 = b := by omega
        have h1b : ¬ 1 = b := by omega
        refine wB1 (wa hL (wa q0 (wa hn0 (wa @hn1 (wa h0n (wa h1n (wa hb (wa hbn' (wa hnb (wa hb0 (wa hb1 (wa h0b (wa h1b (wa g1 (wa g2 (wa g3 (wa g4 @ints_snoc))))))))))))))))) ?_
        refine roundEnd_norm (by simp only [vop, val, argsT, upd_ap, Nat.reduceEqDiff, if_true, if_false, ite_true, ite_false, reduceIte, loadAt, loadA, AV.cells, AV.one, List.all_cons, List.all_nil, ofV, ofCell, plain, List.getElem?_cons_zero, List.getElem?_cons_succ, List.getElem?_toArray, Option.getD_some, Bool.not_true, Bool.not_false, Bool.false_eq_true, Bool.and_true, Bool.true_and, Bool.and_self, Nat.zero_add, Option.map_some, Option.bind_some, List.map_cons, List.map_nil, ev_add, ev_sub, ev_mul, ev_lss, ev_leq, ev_gtr, ev_geq, ev_eql, ev_neq, ev_seql, ev_sneq, ev_sleq, ev_slss, ev_not, ev_min, ev_max, asNat_nat, asNat_zero, asNat_one, asNat_two, asNat_three, vb_len, List.length_cons, List.length_nil, Nat.reduceAdd, Nat.reduceLeDiff, Nat.reduceMul, Int.reduceEq, Int.reduceLT, Int.reduceLE, Int.reduceNeg, Int.reduceAdd, Int.reduceSub, Nat.reduceLT, decide_true, decide_false, not_true_eq_false, not_false_eq_true, and_self, and_true, true_and, storeA, List.take_zero, List.drop_succ_cons, List.drop_zero, List.nil_append, List.append_nil, List.take_succ_cons, List.cons_append, cut_cons, cut_zero, cut_skip, tAt, hHide, hAt, upsAt, List.contains_cons, List.contains_nil, Nat.reduceBEq, Bool.or_true, Bool.true_or, Bool.or_false, Bool.false_or, Bool.or_self, Bool.and_true, Bool.true_and, Bool.and_false, Bool.false_and, beq_self_eq_true (α := Nat), Option.some_beq_some, Option.none_beq_some, Option.some_beq_none, Bool.false_eq_true, List.all_nil, touch, touchB, Nat.sub_self, List.range'_zero, Nat.add_sub_cancel_left, List.range'_one, hn0, hn1, h0n, h1n, h01, h11, h0b, h1b, hL]; with_reducible rfl) ?_
        refine hT _ _ (by simp only; omega) ⟨by simp only; omega, hw.2, .osl (n + 1) 0 (out.length + 1), out ++ [IntKind.i64.wrap (runeAt s p)], ?_, .inr ⟨n + 1, by simp, ?_, by omega, by simp only; omega⟩, ?_⟩ ?_
        · simp [upd_ap, h0n, h0b]
        · simp [upd_ap, hn0, hn1]
        · exact hr2
        · simp [upd_ap, hL]
    · rintro h n ⟨hn2, hp, x, out, q0, ho, hr⟩ hL
      have hst : runesFrom s s.size = [] := by rw [runesFrom, dif_neg (by omega)]
      rw [hst, List.append_nil] at hr
      refine rangeEnd_norm (by omega) hL rfl rfl ?_
      rcases ho with ⟨rfl, rfl⟩ | ⟨b, rfl, hb, hb2, hbn⟩
      · refine wB1 (wa hL q0) ?_
        rw [← hr]
        simp only [one1, frz_t, frz_n, mapF, frz_s, Option.map_some, List.append_nil]
        rfl
      · refine wB1 (wa hL q0) ?_
        rw [← hr]
        simp only [one1, frz_t]
        simp only [mapF, frz_s]
        have hb1 : ¬ b = 1 := by omega
        rw [frz_w (by simp only [vop, val, argsT, upd_ap, Nat.reduceEqDiff, if_true, if_false, ite_true, ite_false, reduceIte, loadAt, loadA, AV.cells, AV.one, List.all_cons, List.all_nil, ofV, ofCell, plain, List.getElem?_cons_zero, List.getElem?_cons_succ, List.getElem?_toArray, Option.getD_some, Bool.not_true, Bool.not_false, Bool.false_eq_true, Bool.and_true, Bool.true_and, Bool.and_self, Nat.zero_add, Option.map_some, Option.bind_some, List.map_cons, List.map_nil, ev_add, ev_sub, ev_mul, ev_lss, ev_leq, ev_gtr, ev_geq, ev_eql, ev_neq, ev_seql, ev_sneq, ev_sleq, ev_slss, ev_not, ev_min, ev_max, asNat_nat, asNat_zero, asNat_one, asNat_two, asNat_three, vb_len, List.length_cons, List.length_nil, Nat.reduceAdd, Nat.reduceLeDiff, Nat.reduceMul, Int.reduceEq, Int.reduceLT, Int.reduceLE, Int.reduceNeg, Int.reduceAdd, Int.reduceSub, Nat.reduceLT, decide_true, decide_false, not_true_eq_false, not_false_eq_true, and_self, and_true, true_and, storeA, List.take_zero, List.drop_succ_cons, List.drop_zero, List.nil_append, List.append_nil, List.take_succ_cons, List.cons_append, cut_cons, cut_zero, cut_skip, tAt, hHide, hAt, upsAt, List.contains_cons, List.contains_nil, Nat.reduceBEq, Bool.or_true, Bool.true_or, Bool.or_false, Bool.false_or, Bool.or_self, Bool.and_true, Bool.true_and, Bool.and_false, Bool.false_and, beq_self_eq_true (α := Nat), Option.some_beq_some, Option.none_beq_some, Option.some_beq_none, Bool.false_eq_true, List.all_nil, touch, touchB, Nat.sub_self, List.range'_zero, Nat.add_sub_cancel_left, List.range'_one, hb, hb1]; with_reducible rfl) (by rw [ints_len, Nat.mul_one]) (ints_pur out)]
        rfl
  · rw [if_neg h0]
    refine Pc_of (Gf_enter (C := Cf G) Tryz.func60 rfl ok60 (Nat.le_of_ble_eq_true rfl) ?_)
    simp only [Tryz.f60, Option.getD_some]
    refine wC1 h0 (wa h1 (wa h2 trivial)) ?_
    simp only [one1, frz_t, frz_n, mapF, frz_s, Option.map_some, List.append_nil]
def cntS (s : ByteArray) : Nat := if (chkFrom s 0).2 = 0 then (runesFrom s 0).length else 0
theorem cnt_le (s : ByteArray) : cntS s ≤ s.size := by
  have := runes_len s 0
  unfold cntS
  split <;> omega
theorem pc53 (G : Nat → Option (List AV)) (s : ByteArray) (hn : s.size * 8 ≤ 140737488355328) : Pc (Cf G) 53 [.sc (.string s)] (.tup [.sc (.int .i64 (cntS s)), .sc (.int .i64 (chkFrom s 0).2)]) := by
  have h1 := pc60 G s hn
  unfold cntS
  generalize (chkFrom s 0).2 = c2 at *
  by_cases h0 : c2 = 0
  · subst h0
    rw [if_pos rfl] at h1 ⊢
    refine Pc_of (Gf_enter (C := Cf G) Tryz.func53 rfl ok53 (Nat.le_of_ble_eq_true rfl) ?_)
    simp only [Tryz.f53, Option.getD_some]
    refine wC1 trivial (wa h1 trivial) ?_
    simp only [one1, frz_t, mapF, frz_s, Option.map_some, List.append_nil]
  · rw [if_neg h0] at h1 ⊢
    refine Pc_of (Gf_enter (C := Cf G) Tryz.func53 rfl ok53 (Nat.le_of_ble_eq_true rfl) ?_)
    simp only [Tryz.f53, Option.getD_some]
    refine wC1 trivial (wa h1 trivial) ?_
    simp only [one1, frz_t, mapF, frz_s, Option.map_some, List.append_nil, Int.natCast_zero]
end Go.Proofs.Bv
namespace Go.Proofs.Bv
open Go
def letters (s : ByteArray) : Int := if (chkFrom s 0).2 = 0 then (if 16384 < (s.size : Int) then 5 else 0) else (chkFrom s 0).2
theorem ok220 : codeOk 16 (Tryz.f220.body.getD .skip) = true := by kernel_rfl
set_option maxHeartbeats 2000000 in
set_option maxRecDepth 100000 in
theorem pc220 (G : Nat → Option (List AV)) (s : ByteArray) (hn : s.size ≤ 140737488355328) : Pc (Cf G) 220 [.sc (.string s)] (.sc (.int .i64 (letters s))) := by
  have hc := pc110 G s hn
  unfold letters
  generalize chkFrom s 0 = e at hc
  obtain ⟨a, e⟩ := e
  simp only at hc
  refine Pc_of (Gf_enter (C := Cf G) Tryz.func220 rfl ok220 (Nat.le_of_ble_eq_true rfl) ?_)
  simp only [Tryz.f220, Option.getD_some]
  by_cases he : e = 0
  · by_cases hl : 16384 < (s.size : Int)
    · refine wC1 (wa he hl) (wa hc trivial) ?_
      simp only [one1, frz_sc, Option.map_some, he, hl, if_true]
    · refine wC1 (wa he hl) (wa hc trivial) ?_
      simp only [one1, frz_sc, Option.map_some, he, hl, if_true, if_false]
  · refine wC1 he (wa hc trivial) ?_
    simp only [one1, frz_sc, Option.map_some, he, if_false]
end Go.Proofs.Bv
namespace Go.Proofs.Bv
open Go
theorem ok282 : codeOk 28 (Tryz.f282.body.getD .skip) = true := by kernel_rfl
def Half (l cs : List AV) (i j : Int) : Prop := cs.length = l.length ∧ ∀ p : Nat, p < l.length → cs[p]? = if (p : Int) < i ∨ j < (p : Int) then l[l.length - 1 - p]? else l[p]?
theorem Half.done {l cs : List AV} {i j : Int} (h : Half l cs i j) (hij : i + j = (l.length : Int) - 1) (hge : ¬ i < j) : cs = l.reverse := by
  apply List.ext_getElem?
  intro p
  rcases Nat.lt_or_ge p l.length with hp | hp
  · rw [h.2 p hp, List.getElem?_reverse hp]
    split
    · rfl
    · have : l.length - 1 - p = p := by omega
      rw [this]
  · rw [List.getElem?_eq_none (by rw [h.1]; omega), List.getElem?_eq_none (by simp; omega)]
theorem Half.swap {l cs : List AV} {i j : Nat} {x y : AV} (h : Half l cs i j) (hij : (i : Int) + j = (l.length : Int) - 1) (hlt : i < j) (hx : cs[i]? = some x) (hy : cs[j]? = some y) :
    Half l ((cs.set i y).set j x) (i + 1) (j - 1) := by
  refine ⟨by simp [h.1], fun p hp => ?_⟩
  have hix : l[i]? = some x := by
    have := h.2 i (by omega)
    rw [if_neg (by omega), hx] at this
    exact this.symm
  have hjy : l[j]? = some y := by
    have := h.2 j (by omega)
    rw [if_neg (by omega), hy] at this
    exact this.symm
  rw [List.getElem?_set, List.getElem?_set]
  by_cases e1 : j = p
  · subst e1
    rw [if_pos rfl, if_pos (by simp [h.1]; omega), if_pos (by omega)]
    have : l.length - 1 - j = i := by omega
    rw [this, hix]
  · rw [if_neg e1]
    by_cases e2 : i = p
    · subst e2
      rw [if_pos rfl, if_pos (by rw [h.1]; omega), if_pos (by omega)]
      have : l.length - 1 - i = j := by omega
      rw [this, hjy]
    · rw [if_neg e2, h.2 p hp]
      by_cases c : (p : Int) < i ∨ (j : Int) < p
      · rw [if_pos c, if_pos (by omega)]
      · rw [if_neg c, if_neg (by omega)]
theorem store_one {cs : List AV} {i : Nat} {y : AV} (hi : i < cs.length) : cs.take i ++ [y] ++ cs.drop (i + 1) = cs.set i y := by
  rw [List.set_eq_take_append_cons_drop, if_pos hi, List.append_assoc]
  rfl
set_option maxHeartbeats 4000000 in
set_option maxRecDepth 100000 in
theorem gf282 (G : Nat → Option (List AV)) (l : List AV) (hone : ∀ x ∈ l, ∃ v, x = .sc v) (hl : l.length ≤ 140737488355328) (b : Nat) {h : Heap} {n : Nat} (hb : h b = some (.cells l 1 false)) (Q : AV → Heap → Nat → Prop)
    (hq : Q (.tup []) (upd h b (some (.cells l.reverse 1 false))) n) : Gf (Cf G) 282 [.osl b 0 l.length] h n Q := by
  have w0 : IntKind.i64.wrap ((l.length : Int) - 1) = (l.length : Int) - 1 := i64 (by omega) (by omega)
  refine Gf_enter (C := Cf G) Tryz.func282 rfl ok282 (Nat.le_of_ble_eq_true rfl) ?_
  simp only [Tryz.f282, Option.getD_some]
  refine wB1 w0 ?_
  refine Gc_loop_inv (fun m st => ∃ (i : Nat) (j : Int) (cs : List AV), m = (j + 1 - i).toNat ∧ (i : Int) + j = (l.length : Int) - 1 ∧ -1 ≤ j ∧ st.T 0 = .osl b 0 l.length ∧ st.T 2 = .sc (.int .i64 i) ∧ st.T 3 = .sc (.int .i64 j) ∧ st.n = n ∧ Half l cs i j ∧ (∀ x ∈ cs, x ∈ l) ∧ st.h = upd h b (some (.cells cs 1 false))) ?_ _ _ ⟨0, (l.length : Int) - 1, l, rfl, by omega, by omega, ?_⟩
  · rintro m ⟨T, h', n'⟩ ⟨i, j, cs, rfl, hij, hj1, h0, h2, h3, rfl, hh, hmem, rfl⟩
    simp only at h0 h2 h3
    by_cases hlt : (i : Int) < j
    · obtain ⟨j', rfl⟩ : ∃ j' : Nat, j = j' := ⟨j.toNat, by omega⟩
      have hcl := hh.1
      have hil : i < l.length := by omega
      have hjl : j' < l.length := by omega
      have hic : i < cs.length := by omega
      have hjc : j' < cs.length := by omega
      obtain ⟨x, hx⟩ : ∃ x, cs[i]? = some x := ⟨cs[i]'hic, List.getElem?_eq_getElem hic⟩
      obtain ⟨y, hy⟩ : ∃ y, cs[j']? = some y := ⟨cs[j']'hjc, List.getElem?_eq_getElem hjc⟩
      have hmx := hmem x (List.mem_of_getElem? hx)
      have hmy := hmem y (List.mem_of_getElem? hy)
      obtain ⟨x, rfl⟩ := hone x hmx
      obtain ⟨y, rfl⟩ := hone y hmy
      have hx' : cs[i * 1]? = some (.sc x) := by rw [Nat.mul_one]; exact hx
      have hy' : cs[j' * 1]? = some (.sc y) := by rw [Nat.mul_one]; exact hy
      have s1 : cs.take (i * 1) ++ [.sc y] ++ cs.drop (i * 1 + 1) = cs.set i (.sc y) := by rw [Nat.mul_one]; exact store_one hic
      have s2 : (cs.set i (.sc y)).take (j' * 1) ++ [.sc x] ++ (cs.set i (.sc y)).drop (j' * 1 + 1) = (cs.set i (.sc y)).set j' (.sc x) := by rw [Nat.mul_one]; exact store_one (by simpa using hjc)
      have b1 : i * 1 + 1 ≤ cs.length := by omega
      have b2 : j' * 1 + 1 ≤ cs.length := by omega
      have wi : IntKind.i64.wrap ((i : Int) + 1) = (i : Int) + 1 := i64 (by omega) (by omega)
      have wj : IntKind.i64.wrap ((j' : Int) - 1) = (j' : Int) - 1 := i64 (by omega) (by omega)
      refine gB1 (wa h0 (wa h2 (wa h3 (wa hlt (wa hil (wa hjl (wa hx' (wa hy' (wa s1 (wa s2 (wa b1 (wa b2 (wa wi (wa wj @List.length_set.{0})))))))))))))) ?_
      refine ⟨_, ?_, i + 1, (j' : Int) - 1, (cs.set i (.sc y)).set j' (.sc x), rfl, by omega, by omega, ?_, ?_, ?_, rfl, hh.swap hij (by omega) hx hy, ?_, ?_⟩
      · omega
      · simp only [vop, val, argsT, upd_ap, Nat.reduceEqDiff, if_true, if_false, ite_true, ite_false, reduceIte, loadAt, loadA, AV.cells, AV.one, List.all_cons, List.all_nil, ofV, ofCell, plain, List.getElem?_cons_zero, List.getElem?_cons_succ, List.getElem?_toArray, Option.getD_some, Bool.not_true, Bool.not_false, Bool.false_eq_true, Bool.and_true, Bool.true_and, Bool.and_self, Nat.zero_add, Option.map_some, Option.bind_some, List.map_cons, List.map_nil, ev_add, ev_sub, ev_mul, ev_lss, ev_leq, ev_gtr, ev_geq, ev_eql, ev_neq, ev_seql, ev_sneq, ev_sleq, ev_slss, ev_not, ev_min, ev_max, asNat_nat, asNat_zero, asNat_one, asNat_two, asNat_three, vb_len, List.length_cons, List.length_nil, Nat.reduceAdd, Nat.reduceLeDiff, Nat.reduceMul, Int.reduceEq, Int.reduceLT, Int.reduceLE, Int.reduceNeg, Int.reduceAdd, Int.reduceSub, Nat.reduceLT, decide_true, decide_false, not_true_eq_false, not_false_eq_true, and_self, and_true, true_and, storeA, List.take_zero, List.drop_succ_cons, List.drop_zero, List.nil_append, List.append_nil, List.take_succ_cons, List.cons_append, cut_cons, cut_zero, cut_skip, tAt, hHide, hAt, upsAt, List.contains_cons, List.contains_nil, Nat.reduceBEq, Bool.or_true, Bool.true_or, Bool.or_false, Bool.false_or, Bool.or_self, Bool.and_true, Bool.true_and, Bool.and_false, Bool.false_and, beq_self_eq_true (α := Nat), Option.some_beq_some, Option.none_beq_some, Option.some_beq_none, Bool.false_eq_true, List.all_nil, touch, touchB, Nat.sub_self, List.range'_zero, Nat.add_sub_cancel_left, List.range'_one, h0]
      · simp only [vop, val, argsT, upd_ap, Nat.reduceEqDiff, if_true, if_false, ite_true, ite_false, reduceIte, loadAt, loadA, AV.cells, AV.one, List.all_cons, List.all_nil, ofV, ofCell, plain, List.getElem?_cons_zero, List.getElem?_cons_succ, List.getElem?_toArray, Option.getD_some, Bool.not_true, Bool.not_false, Bool.false_eq_true, Bool.and_true, Bool.true_and, Bool.and_self, Nat.zero_add, Option.map_some, Option.bind_some, List.map_cons, List.map_nil, ev_add, ev_sub, ev_mul, ev_lss, ev_leq, ev_gtr, ev_geq, ev_eql, ev_neq, ev_seql, ev_sneq, ev_sleq, ev_slss, ev_not, ev_min, ev_max, asNat_nat, asNat_zero, asNat_one, asNat_two, asNat_three, vb_len, List.length_cons, List.length_nil, Nat.reduceAdd, Nat.reduceLeDiff, Nat.reduceMul, Int.reduceEq, Int.reduceLT, Int.reduceLE, Int.reduceNeg, Int.reduceAdd, Int.reduceSub, Nat.reduceLT, decide_true, decide_false, not_true_eq_false, not_false_eq_true, and_self, and_true, true_and, storeA, List.take_zero, List.drop_succ_cons, List.drop_zero, List.nil_append, List.append_nil, List.take_succ_cons, List.cons_append, cut_cons, cut_zero, cut_skip, tAt, hHide, hAt, upsAt, List.contains_cons, List.contains_nil, Nat.reduceBEq, Bool.or_true, Bool.true_or, Bool.or_false, Bool.false_or, Bool.or_self, Bool.and_true, Bool.true_and, Bool.and_false, Bool.false_and, beq_self_eq_true (α := Nat), Option.some_beq_some, Option.none_beq_some, Option.some_beq_none, Bool.false_eq_true, List.all_nil, touch, touchB, Nat.sub_self, List.range'_zero, Nat.add_sub_cancel_left, List.range'_one, wi]
        rfl
      · simp only [vop, val, argsT, upd_ap, Nat.reduceEqDiff, if_true, if_false, ite_true, ite_false, reduceIte, loadAt, loadA, AV.cells, AV.one, List.all_cons, List.all_nil, ofV, ofCell, plain, List.getElem?_cons_zero, List.getElem?_cons_succ, List.getElem?_toArray, Option.getD_some, Bool.not_true, Bool.not_false, Bool.false_eq_true, Bool.and_true, Bool.true_and, Bool.and_self, Nat.zero_add, Option.map_some, Option.bind_some, List.map_cons, List.map_nil, ev_add, ev_sub, ev_mul, ev_lss, ev_leq, ev_gtr, ev_geq, ev_eql, ev_neq, ev_seql, ev_sneq, ev_sleq, ev_slss, ev_not, ev_min, ev_max, asNat_nat, asNat_zero, asNat_one, asNat_two, asNat_three, vb_len, List.length_cons, List.length_nil, Nat.reduceAdd, Nat.reduceLeDiff, Nat.reduceMul, Int.reduceEq, Int.reduceLT, Int.reduceLE, Int.reduceNeg, Int.reduceAdd, Int.reduceSub, Nat.reduceLT, decide_true, decide_false, not_true_eq_false, not_false_eq_true, and_self, and_true, true_and, storeA, List.take_zero, List.drop_succ_cons, List.drop_zero, List.nil_append, List.append_nil, List.take_succ_cons, List.cons_append, cut_cons, cut_zero, cut_skip, tAt, hHide, hAt, upsAt, List.contains_cons, List.contains_nil, Nat.reduceBEq, Bool.or_true, Bool.true_or, Bool.or_false, Bool.false_or, Bool.or_self, Bool.and_true, Bool.true_and, Bool.and_false, Bool.false_and, beq_self_eq_true (α := Nat), Option.some_beq_some, Option.none_beq_some, Option.some_beq_none, Bool.false_eq_true, List.all_nil, touch, touchB, Nat.sub_self, List.range'_zero, Nat.add_sub_cancel_left, List.range'_one, wj]
      · intro z hz
        rcases List.mem_or_eq_of_mem_set hz with hz | rfl
        · rcases List.mem_or_eq_of_mem_set hz with hz | rfl
          · exact hmem z hz
          · exact hmy
        · exact hmx
      · funext c
        by_cases hc : c = b
        · subst hc
          simp only [vop, val, argsT, upd_ap, Nat.reduceEqDiff, if_true, if_false, ite_true, ite_false, reduceIte, loadAt, loadA, AV.cells, AV.one, List.all_cons, List.all_nil, ofV, ofCell, plain, List.getElem?_cons_zero, List.getElem?_cons_succ, List.getElem?_toArray, Option.getD_some, Bool.not_true, Bool.not_false, Bool.false_eq_true, Bool.and_true, Bool.true_and, Bool.and_self, Nat.zero_add, Option.map_some, Option.bind_some, List.map_cons, List.map_nil, ev_add, ev_sub, ev_mul, ev_lss, ev_leq, ev_gtr, ev_geq, ev_eql, ev_neq, ev_seql, ev_sneq, ev_sleq, ev_slss, ev_not, ev_min, ev_max, asNat_nat, asNat_zero, asNat_one, asNat_two, asNat_three, vb_len, List.length_cons, List.length_nil, Nat.reduceAdd, Nat.reduceLeDiff, Nat.reduceMul, Int.reduceEq, Int.reduceLT, Int.reduceLE, Int.reduceNeg, Int.reduceAdd, Int.reduceSub, Nat.reduceLT, decide_true, decide_false, not_true_eq_false, not_false_eq_true, and_self, and_true, true_and, storeA, List.take_zero, List.drop_succ_cons, List.drop_zero, List.nil_append, List.append_nil, List.take_succ_cons, List.cons_append, cut_cons, cut_zero, cut_skip, tAt, hHide, hAt, upsAt, List.contains_cons, List.contains_nil, Nat.reduceBEq, Bool.or_true, Bool.true_or, Bool.or_false, Bool.false_or, Bool.or_self, Bool.and_true, Bool.true_and, Bool.and_false, Bool.false_and, beq_self_eq_true (α := Nat), Option.some_beq_some, Option.none_beq_some, Option.some_beq_none, Bool.false_eq_true, List.all_nil, touch, touchB, Nat.sub_self, List.range'_zero, Nat.add_sub_cancel_left, List.range'_one, s1, s2]
        · simp only [vop, val, argsT, upd_ap, Nat.reduceEqDiff, if_true, if_false, ite_true, ite_false, reduceIte, loadAt, loadA, AV.cells, AV.one, List.all_cons, List.all_nil, ofV, ofCell, plain, List.getElem?_cons_zero, List.getElem?_cons_succ, List.getElem?_toArray, Option.getD_some, Bool.not_true, Bool.not_false, Bool.false_eq_true, Bool.and_true, Bool.true_and, Bool.and_self, Nat.zero_add, Option.map_some, Option.bind_some, List.map_cons, List.map_nil, ev_add, ev_sub, ev_mul, ev_lss, ev_leq, ev_gtr, ev_geq, ev_eql, ev_neq, ev_seql, ev_sneq, ev_sleq, ev_slss, ev_not, ev_min, ev_max, asNat_nat, asNat_zero, asNat_one, asNat_two, asNat_three, vb_len, List.length_cons, List.length_nil, Nat.reduceAdd, Nat.reduceLeDiff, Nat.reduceMul, Int.reduceEq, Int.reduceLT, Int.reduceLE, Int.reduceNeg, Int.reduceAdd, Int.reduceSub, Nat.reduceLT, decide_true, decide_false, not_true_eq_false, not_false_eq_true, and_self, and_true, true_and, storeA, List.take_zero, List.drop_succ_cons, List.drop_zero, List.nil_append, List.append_nil, List.take_succ_cons, List.cons_append, cut_cons, cut_zero, cut_skip, tAt, hHide, hAt, upsAt, List.contains_cons, List.contains_nil, Nat.reduceBEq, Bool.or_true, Bool.true_or, Bool.or_false, Bool.false_or, Bool.or_self, Bool.and_true, Bool.true_and, Bool.and_false, Bool.false_and, beq_self_eq_true (α := Nat), Option.some_beq_some, Option.none_beq_some, Option.some_beq_none, Bool.false_eq_true, List.all_nil, touch, touchB, Nat.sub_self, List.range'_zero, Nat.add_sub_cancel_left, List.range'_one, hc]
    · have := hh.done hij hlt
      subst this
      refine wB1 (wa h0 (wa h2 (wa h3 hlt))) ?_
      exact hq
  · refine ⟨rfl, rfl, rfl, rfl, ⟨rfl, fun p hp => ?_⟩, fun x hx => hx, ?_⟩
    · rw [if_neg (by omega)]
    · funext c
      by_cases hc : c = b
      · subst hc; simp [upd, hb]
      · simp [upd, hc]
end Go.Proofs.Bv
namespace Go.Proofs.Bv
open Go
theorem ok61 : codeOk 28 (Tryz.f61.body.getD .skip) = true := by kernel_rfl
theorem ok59 : codeOk 28 (Tryz.f59.body.getD .skip) = true := by kernel_rfl
def HalfG {α : Type} (l cs : List α) (i j : Int) : Prop := cs.length = l.length ∧ ∀ p : Nat, p < l.length → cs[p]? = if (p : Int) < i ∨ j < (p : Int) then l[l.length - 1 - p]? else l[p]?
theorem HalfG.done {α : Type} {l cs : List α} {i j : Int} (h : HalfG l cs i j) (hij : i + j = (l.length : Int) - 1) (hge : ¬ i < j) : cs = l.reverse := by
  apply List.ext_getElem?
  intro p
  rcases Nat.lt_or_ge p l.length with hp | hp
  · rw [h.2 p hp, List.getElem?_reverse hp]
    split
    · rfl
    · have : l.length - 1 - p = p := by omega
      rw [this]
  · rw [List.getElem?_eq_none (by rw [h.1]; omega), List.getElem?_eq_none (by simp; omega)]
theorem HalfG.swap {α : Type} {l cs : List α} {i j : Nat} {x y : α} (h : HalfG l cs i j) (hij : (i : Int) + j = (l.length : Int) - 1) (hlt : i < j) (hx : cs[i]? = some x) (hy : cs[j]? = some y) :
    HalfG l ((cs.set i y).set j x) (i + 1) (j - 1) := by
  refine ⟨by simp [h.1], fun p hp => ?_⟩
  have hix : l[i]? = some x := by
    have := h.2 i (by omega)
    rw [if_neg (by omega), hx] at this
    exact this.symm
  have hjy : l[j]? = some y := by
    have := h.2 j (by omega)
    rw [if_neg (by omega), hy] at this
    exact this.symm
  rw [List.getElem?_set, List.getElem?_set]
  by_cases e1 : j = p
  · subst e1
    rw [if_pos rfl, if_pos (by simp [h.1]; omega), if_pos (by omega)]
    have : l.length - 1 - j = i := by omega
    rw [this, hix]
  · rw [if_neg e1]
    by_cases e2 : i = p
    · subst e2
      rw [if_pos rfl, if_pos (by rw [h.1]; omega), if_pos (by omega)]
      have : l.length - 1 - i = j := by omega
      rw [this, hjy]
    · rw [if_neg e2, h.2 p hp]
      by_cases c : (p : Int) < i ∨ (j : Int) < p
      · rw [if_pos c, if_pos (by omega)]
      · rw [if_neg c, if_neg (by omega)]
set_option maxHeartbeats 4000000 in
set_option maxRecDepth 100000 in
theorem gf61 (G : Nat → Option (List AV)) (l : List AV) (hone : ∀ x ∈ l, ∃ v, x = .sc v) (hl : l.length ≤ 140737488355328) (b : Nat) {h : Heap} {n : Nat} (hb : h b = some (.cells l 1 false)) (Q : AV → Heap → Nat → Prop)
    (hq : Q (.tup []) (upd h b (some (.cells l.reverse 1 false))) n) : Gf (C2 G) 61 [.osl b 0 l.length] h n Q := by
  have w0 : IntKind.i64.wrap ((l.length : Int) - 1) = (l.length : Int) - 1 := i64 (by omega) (by omega)
  refine Gf_enter (C := C2 G) Tryz.func61 rfl ok61 (Nat.le_of_ble_eq_true rfl) ?_
  simp only [Tryz.f61, Option.getD_some]
  refine wB1 w0 ?_
  refine Gc_loop_inv (fun m st => ∃ (i : Nat) (j : Int) (cs : List AV), m = (j + 1 - i).toNat ∧ (i : Int) + j = (l.length : Int) - 1 ∧ -1 ≤ j ∧ st.T 0 = .osl b 0 l.length ∧ st.T 2 = .sc (.int .i64 i) ∧ st.T 3 = .sc (.int .i64 j) ∧ st.n = n ∧ HalfG l cs i j ∧ (∀ x ∈ cs, x ∈ l) ∧ st.h = upd h b (some (.cells cs 1 false))) ?_ _ _ ⟨0, (l.length : Int) - 1, l, rfl, by omega, by omega, ?_⟩
  · rintro m ⟨T, h', n'⟩ ⟨i, j, cs, rfl, hij, hj1, h0, h2, h3, rfl, hh, hmem, rfl⟩
    simp only at h0 h2 h3
    by_cases hlt : (i : Int) < j
    · obtain ⟨j', rfl⟩ : ∃ j' : Nat, j = j' := ⟨j.toNat, by omega⟩
      have hcl := hh.1
      have hil : i < l.length := by omega
      have hjl : j' < l.length := by omega
      have hic : i < cs.length := by omega
      have hjc : j' < cs.length := by omega
      obtain ⟨x, hx⟩ : ∃ x, cs[i]? = some x := ⟨cs[i]'hic, List.getElem?_eq_getElem hic⟩
      obtain ⟨y, hy⟩ : ∃ y, cs[j']? = some y := ⟨cs[j']'hjc, List.getElem?_eq_getElem hjc⟩
      have hmx := hmem x (List.mem_of_getElem? hx)
      have hmy := hmem y (List.mem_of_getElem? hy)
      obtain ⟨x, rfl⟩ := hone x hmx
      obtain ⟨y, rfl⟩ := hone y hmy
      have hx' : cs[i * 1]? = some (.sc x) := by rw [Nat.mul_one]; exact hx
      have hy' : cs[j' * 1]? = some (.sc y) := by rw [Nat.mul_one]; exact hy
      have s1 : cs.take (i * 1) ++ [.sc y] ++ cs.drop (i * 1 + 1) = cs.set i (.sc y) := by rw [Nat.mul_one]; exact store_one hic
      have s2 : (cs.set i (.sc y)).take (j' * 1) ++ [.sc x] ++ (cs.set i (.sc y)).drop (j' * 1 + 1) = (cs.set i (.sc y)).set j' (.sc x) := by rw [Nat.mul_one]; exact store_one (by simpa using hjc)
      have b1 : i * 1 + 1 ≤ cs.length := by omega
      have b2 : j' * 1 + 1 ≤ cs.length := by omega
      have wi : IntKind.i64.wrap ((i : Int) + 1) = (i : Int) + 1 := i64 (by omega) (by omega)
      have wj : IntKind.i64.wrap ((j' : Int) - 1) = (j' : Int) - 1 := i64 (by omega) (by omega)
      refine gB1 (wa h0 (wa h2 (wa h3 (wa hlt (wa hil (wa hjl (wa hx' (wa hy' (wa s1 (wa s2 (wa b1 (wa b2 (wa wi (wa wj @List.length_set.{0})))))))))))))) ?_
      refine ⟨_, ?_, i + 1, (j' : Int) - 1, (cs.set i (.sc y)).set j' (.sc x), rfl, by omega, by omega, ?_, ?_, ?_, rfl, hh.swap hij (by omega) hx hy, ?_, ?_⟩
      · omega
      · simp only [vop, val, argsT, upd_ap, Nat.reduceEqDiff, if_true, if_false, ite_true, ite_false, reduceIte, loadAt, loadA, AV.cells, AV.one, List.all_cons, List.all_nil, ofV, ofCell, plain, List.getElem?_cons_zero, List.getElem?_cons_succ, List.getElem?_toArray, Option.getD_some, Bool.not_true, Bool.not_false, Bool.false_eq_true, Bool.and_true, Bool.true_and, Bool.and_self, Nat.zero_add, Option.map_some, Option.bind_some, List.map_cons, List.map_nil, ev_add, ev_sub, ev_mul, ev_lss, ev_leq, ev_gtr, ev_geq, ev_eql, ev_neq, ev_seql, ev_sneq, ev_sleq, ev_slss, ev_not, ev_min, ev_max, asNat_nat, asNat_zero, asNat_one, asNat_two, asNat_three, vb_len, List.length_cons, List.length_nil, Nat.reduceAdd, Nat.reduceLeDiff, Nat.reduceMul, Int.reduceEq, Int.reduceLT, Int.reduceLE, Int.reduceNeg, Int.reduceAdd, Int.reduceSub, Nat.reduceLT, decide_true, decide_false, not_true_eq_false, not_false_eq_true, and_self, and_true, true_and, storeA, List.take_zero, List.drop_succ_cons, List.drop_zero, List.nil_append, List.append_nil, List.take_succ_cons, List.cons_append, cut_cons, cut_zero, cut_skip, tAt, hHide, hAt, upsAt, List.contains_cons, List.contains_nil, Nat.reduceBEq, Bool.or_true, Bool.true_or, Bool.or_false, Bool.false_or, Bool.or_self, Bool.and_true, Bool.true_and, Bool.and_false, Bool.false_and, beq_self_eq_true (α := Nat), Option.some_beq_some, Option.none_beq_some, Option.some_beq_none, Bool.false_eq_true, List.all_nil, touch, touchB, Nat.sub_self, List.range'_zero, Nat.add_sub_cancel_left, List.range'_one, h0]
      · simp only [vop, val, argsT, upd_ap, Nat.reduceEqDiff, if_true, if_false, ite_true, ite_false, reduceIte, loadAt, loadA, AV.cells, AV.one, List.all_cons, List.all_nil, ofV, ofCell, plain, List.getElem?_cons_zero, List.getElem?_cons_succ, List.getElem?_toArray, Option.getD_some, Bool.not_true, Bool.not_false, Bool.false_eq_true, Bool.and_true, Bool.true_and, Bool.and_self, Nat.zero_add, Option.map_some, Option.bind_some, List.map_cons, List.map_nil, ev_add, ev_sub, ev_mul, ev_lss, ev_leq, ev_gtr, ev_geq, ev_eql, ev_neq, ev_seql, ev_sneq, ev_sleq, ev_slss, ev_not, ev_min, ev_max, asNat_nat, asNat_zero, asNat_one, asNat_two, asNat_three, vb_len, List.length_cons, List.length_nil, Nat.reduceAdd, Nat.reduceLeDiff, Nat.reduceMul, Int.reduceEq, Int.reduceLT, Int.reduceLE, Int.reduceNeg, Int.reduceAdd, Int.reduceSub, Nat.reduceLT, decide_true, decide_false, not_true_eq_false, not_false_eq_true, and_self, and_true, true_and, storeA, List.take_zero, List.drop_succ_cons, List.drop_zero, List.nil_append, List.append_nil, List.take_succ_cons, List.cons_append, cut_cons, cut_zero, cut_skip, tAt, hHide, hAt, upsAt, List.contains_cons, List.contains_nil, Nat.reduceBEq, Bool.or_true, Bool.true_or, Bool.or_false, Bool.false_or, Bool.or_self, Bool.and_true, Bool.true_and, Bool.and_false, Bool.false_and, beq_self_eq_true (α := Nat), Option.some_beq_some, Option.none_beq_some, Option.some_beq_none, Bool.false_eq_true, List.all_nil, touch, touchB, Nat.sub_self, List.range'_zero, Nat.add_sub_cancel_left, List.range'_one, wi]
        rfl
      · simp only [vop, val, argsT, upd_ap, Nat.reduceEqDiff, if_true, if_false, ite_true, ite_false, reduceIte, loadAt, loadA, AV.cells, AV.one, List.all_cons, List.all_nil, ofV, ofCell, plain, List.getElem?_cons_zero, List.getElem?_cons_succ, List.getElem?_toArray, Option.getD_some, Bool.not_true, Bool.not_false, Bool.false_eq_true, Bool.and_true, Bool.true_and, Bool.and_self, Nat.zero_add, Option.map_some, Option.bind_some, List.map_cons, List.map_nil, ev_add, ev_sub, ev_mul, ev_lss, ev_leq, ev_gtr, ev_geq, ev_eql, ev_neq, ev_seql, ev_sneq, ev_sleq, ev_slss, ev_not, ev_min, ev_max, asNat_nat, asNat_zero, asNat_one, asNat_two, asNat_three, vb_len, List.length_cons, List.length_nil, Nat.reduceAdd, Nat.reduceLeDiff, Nat.reduceMul, Int.reduceEq, Int.reduceLT, Int.reduceLE, Int.reduceNeg, Int.reduceAdd, Int.reduceSub, Nat.reduceLT, decide_true, decide_false, not_true_eq_false, not_false_eq_true, and_self, and_true, true_and, storeA, List.take_zero, List.drop_succ_cons, List.drop_zero, List.nil_append, List.append_nil, List.take_succ_cons, List.cons_append, cut_cons, cut_zero, cut_skip, tAt, hHide, hAt, upsAt, List.contains_cons, List.contains_nil, Nat.reduceBEq, Bool.or_true, Bool.true_or, Bool.or_false, Bool.false_or, Bool.or_self, Bool.and_true, Bool.true_and, Bool.and_false, Bool.false_and, beq_self_eq_true (α := Nat), Option.some_beq_some, Option.none_beq_some, Option.some_beq_none, Bool.false_eq_true, List.all_nil, touch, touchB, Nat.sub_self, List.range'_zero, Nat.add_sub_cancel_left, List.range'_one, wj]
      · intro z hz
        rcases List.mem_or_eq_of_mem_set hz with hz | rfl
        · rcases List.mem_or_eq_of_mem_set hz with hz | rfl
          · exact hmem z hz
          · exact hmy
        · exact hmx
      · funext c
        by_cases hc : c = b
        · subst hc
          simp only [vop, val, argsT, upd_ap, Nat.reduceEqDiff, if_true, if_false, ite_true, ite_false, reduceIte, loadAt, loadA, AV.cells, AV.one, List.all_cons, List.all_nil, ofV, ofCell, plain, List.getElem?_cons_zero, List.getElem?_cons_succ, List.getElem?_toArray, Option.getD_some, Bool.not_true, Bool.not_false, Bool.false_eq_true, Bool.and_true, Bool.true_and, Bool.and_self, Nat.zero_add, Option.map_some, Option.bind_some, List.map_cons, List.map_nil, ev_add, ev_sub, ev_mul, ev_lss, ev_leq, ev_gtr, ev_geq, ev_eql, ev_neq, ev_seql, ev_sneq, ev_sleq, ev_slss, ev_not, ev_min, ev_max, asNat_nat, asNat_zero, asNat_one, asNat_two, asNat_three, vb_len, List.length_cons, List.length_nil, Nat.reduceAdd, Nat.reduceLeDiff, Nat.reduceMul, Int.reduceEq, Int.reduceLT, Int.reduceLE, Int.reduceNeg, Int.reduceAdd, Int.reduceSub, Nat.reduceLT, decide_true, decide_false, not_true_eq_false, not_false_eq_true, and_self, and_true, true_and, storeA, List.take_zero, List.drop_succ_cons, List.drop_zero, List.nil_append, List.append_nil, List.take_succ_cons, List.cons_append, cut_cons, cut_zero, cut_skip, tAt, hHide, hAt, upsAt, List.contains_cons, List.contains_nil, Nat.reduceBEq, Bool.or_true, Bool.true_or, Bool.or_false, Bool.false_or, Bool.or_self, Bool.and_true, Bool.true_and, Bool.and_false, Bool.false_and, beq_self_eq_true (α := Nat), Option.some_beq_some, Option.none_beq_some, Option.some_beq_none, Bool.false_eq_true, List.all_nil, touch, touchB, Nat.sub_self, List.range'_zero, Nat.add_sub_cancel_left, List.range'_one, s1, s2]
        · simp only [vop, val, argsT, upd_ap, Nat.reduceEqDiff, if_true, if_false, ite_true, ite_false, reduceIte, loadAt, loadA, AV.cells, AV.one, List.all_cons, List.all_nil, ofV, ofCell, plain, List.getElem?_cons_zero, List.getElem?_cons_succ, List.getElem?_toArray, Option.getD_some, Bool.not_true, Bool.not_false, Bool.false_eq_true, Bool.and_true, Bool.true_and, Bool.and_self, Nat.zero_add, Option.map_some, Option.bind_some, List.map_cons, List.map_nil, ev_add, ev_sub, ev_mul, ev_lss, ev_leq, ev_gtr, ev_geq, ev_eql, ev_neq, ev_seql, ev_sneq, ev_sleq, ev_slss, ev_not, ev_min, ev_max, asNat_nat, asNat_zero, asNat_one, asNat_two, asNat_three, vb_len, List.length_cons, List.length_nil, Nat.reduceAdd, Nat.reduceLeDiff, Nat.reduceMul, Int.reduceEq, Int.reduceLT, Int.reduceLE, Int.reduceNeg, Int.reduceAdd, Int.reduceSub, Nat.reduceLT, decide_true, decide_false, not_true_eq_false, not_false_eq_true, and_self, and_true, true_and, storeA, List.take_zero, List.drop_succ_cons, List.drop_zero, List.nil_append, List.append_nil, List.take_succ_cons, List.cons_append, cut_cons, cut_zero, cut_skip, tAt, hHide, hAt, upsAt, List.contains_cons, List.contains_nil, Nat.reduceBEq, Bool.or_true, Bool.true_or, Bool.or_false, Bool.false_or, Bool.or_self, Bool.and_true, Bool.true_and, Bool.and_false, Bool.false_and, beq_self_eq_true (α := Nat), Option.some_beq_some, Option.none_beq_some, Option.some_beq_none, Bool.false_eq_true, List.all_nil, touch, touchB, Nat.sub_self, List.range'_zero, Nat.add_sub_cancel_left, List.range'_one, hc]
    · have := hh.done hij hlt
      subst this
      refine wB1 (wa h0 (wa h2 (wa h3 hlt))) ?_
      exact hq
  · refine ⟨rfl, rfl, rfl, rfl, ⟨rfl, fun p hp => ?_⟩, fun x hx => hx, ?_⟩
    · rw [if_neg (by omega)]
    · funext c
      by_cases hc : c = b
      · subst hc; simp [upd, hb]
      · simp [upd, hc]
theorem store7 {cs : List JV} {i : Nat} {y : JV} (hi : i < cs.length) : (encs cs).take (i * 7) ++ enc y ++ (encs cs).drop (i * 7 + 7) = encs (cs.set i y) := by
  have e : cs = cs.take i ++ cs[i] :: cs.drop (i + 1) := by rw [← List.drop_eq_getElem_cons hi, List.take_append_drop]
  have hl : (encs (cs.take i)).length = i * 7 := by rw [encs_len, List.length_take]; congr 1; omega
  have e2 : encs cs = encs (cs.take i) ++ (enc cs[i] ++ encs (cs.drop (i + 1))) := by
    conv => lhs; rw [e]
    rw [encs_app, encs]
  rw [List.set_eq_take_append_cons_drop, if_pos hi, encs_app, encs, e2]
  rw [List.take_append_of_le_length (by omega), List.take_of_length_le (by omega), List.append_assoc]
  congr 2
  rw [← List.append_assoc, List.drop_append]
  have h7 := enc_len cs[i]
  rw [List.drop_of_length_le (by rw [List.length_append]; omega)]
  simp only [List.length_append, hl, h7, Nat.sub_self, List.drop_zero, List.nil_append]
theorem load7 {cs : List JV} {i : Nat} {x : JV} (hx : cs[i]? = some x) : cut (encs cs) (i * 7) 7 = enc x ∧ i * 7 + 7 ≤ (encs cs).length := by
  obtain ⟨hi, he⟩ := List.getElem?_eq_some_iff.1 hx
  have e : cs = cs.take i ++ cs[i] :: cs.drop (i + 1) := by rw [← List.drop_eq_getElem_cons hi, List.take_append_drop]
  have := cut_encs (cs.take i) cs[i] (cs.drop (i + 1))
  rw [← e, List.length_take, Nat.min_eq_left (by omega), he] at this
  exact ⟨this, by rw [encs_len]; omega⟩
set_option maxHeartbeats 4000000 in
set_option maxRecDepth 100000 in
theorem gf59 (G : Nat → Option (List AV)) (l : List JV) (hl : l.length ≤ 140737488355328) (b : Nat) {h : Heap} {n : Nat} (hb : h b = some (.cells (encs l) 7 false)) (Q : AV → Heap → Nat → Prop)
    (hq : Q (.tup []) (upd h b (some (.cells (encs l.reverse) 7 false))) n) : Gf (C2 G) 59 [.osl b 0 l.length] h n Q := by
  have w0 : IntKind.i64.wrap ((l.length : Int) - 1) = (l.length : Int) - 1 := i64 (by omega) (by omega)
  refine Gf_enter (C := C2 G) Tryz.func59 rfl ok59 (Nat.le_of_ble_eq_true rfl) ?_
  simp only [Tryz.f59, Option.getD_some]
  refine wB1 w0 ?_
  refine Gc_loop_inv (fun m st => ∃ (i : Nat) (j : Int) (cs : List JV), m = (j + 1 - i).toNat ∧ (i : Int) + j = (l.length : Int) - 1 ∧ -1 ≤ j ∧ st.T 0 = .osl b 0 l.length ∧ st.T 2 = .sc (.int .i64 i) ∧ st.T 3 = .sc (.int .i64 j) ∧ st.n = n ∧ HalfG l cs i j ∧ st.h = upd h b (some (.cells (encs cs) 7 false))) ?_ _ _ ⟨0, (l.length : Int) - 1, l, rfl, by omega, by omega, ?_⟩
  · rintro m ⟨T, h', n'⟩ ⟨i, j, cs, rfl, hij, hj1, h0, h2, h3, rfl, hh, rfl⟩
    simp only at h0 h2 h3
    by_cases hlt : (i : Int) < j
    · obtain ⟨j', rfl⟩ : ∃ j' : Nat, j = j' := ⟨j.toNat, by omega⟩
      have hcl := hh.1
      have hil : i < l.length := by omega
      have hjl : j' < l.length := by omega
      have hic : i < cs.length := by omega
      have hjc : j' < cs.length := by omega
      obtain ⟨x, hx⟩ : ∃ x, cs[i]? = some x := ⟨cs[i]'hic, List.getElem?_eq_getElem hic⟩
      obtain ⟨y, hy⟩ : ∃ y, cs[j']? = some y := ⟨cs[j']'hjc, List.getElem?_eq_getElem hjc⟩
      obtain ⟨x1, x2⟩ := load7 hx
      obtain ⟨y1, y2⟩ := load7 hy
      have s1 := store7 (y := y) hic
      have s2 := store7 (cs := cs.set i y) (i := j') (y := x) (by simpa using hjc)
      have z2 : j' * 7 + 7 ≤ (encs (cs.set i y)).length := by rw [encs_len, List.length_set]; omega
      have lx := enc_len x
      have ly := enc_len y
      have ox : (enc x).all AV.one = true := by cases x; rfl
      have oy : (enc y).all AV.one = true := by cases y; rfl
      have wi : IntKind.i64.wrap ((i : Int) + 1) = (i : Int) + 1 := i64 (by omega) (by omega)
      have wj : IntKind.i64.wrap ((j' : Int) - 1) = (j' : Int) - 1 := i64 (by omega) (by omega)
      have hsw := hh.swap hij (by omega) hx hy
      generalize enc x = ex at *
      generalize enc y = ey at *
      refine gB1 (wa h0 (wa h2 (wa h3 (wa hlt (wa hil (wa hjl (wa x1 (wa x2 (wa y1 (wa y2 (wa s1 (wa s2 (wa z2 (wa lx (wa ly (wa ox (wa oy (wa wi wj)))))))))))))))))) ?_
      refine ⟨_, ?_, i + 1, (j' : Int) - 1, (cs.set i y).set j' x, rfl, by omega, by omega, ?_, ?_, ?_, rfl, hsw, ?_⟩
      · omega
      · simp only [vop, val, argsT, upd_ap, Nat.reduceEqDiff, if_true, if_false, ite_true, ite_false, reduceIte, loadAt, loadA, AV.cells, AV.one, List.all_cons, List.all_nil, ofV, ofCell, plain, List.getElem?_cons_zero, List.getElem?_cons_succ, List.getElem?_toArray, Option.getD_some, Bool.not_true, Bool.not_false, Bool.false_eq_true, Bool.and_true, Bool.true_and, Bool.and_self, Nat.zero_add, Option.map_some, Option.bind_some, List.map_cons, List.map_nil, ev_add, ev_sub, ev_mul, ev_lss, ev_leq, ev_gtr, ev_geq, ev_eql, ev_neq, ev_seql, ev_sneq, ev_sleq, ev_slss, ev_not, ev_min, ev_max, asNat_nat, asNat_zero, asNat_one, asNat_two, asNat_three, vb_len, List.length_cons, List.length_nil, Nat.reduceAdd, Nat.reduceLeDiff, Nat.reduceMul, Int.reduceEq, Int.reduceLT, Int.reduceLE, Int.reduceNeg, Int.reduceAdd, Int.reduceSub, Nat.reduceLT, decide_true, decide_false, not_true_eq_false, not_false_eq_true, and_self, and_true, true_and, storeA, List.take_zero, List.drop_succ_cons, List.drop_zero, List.nil_append, List.append_nil, List.take_succ_cons, List.cons_append, cut_cons, cut_zero, cut_skip, tAt, hHide, hAt, upsAt, List.contains_cons, List.contains_nil, Nat.reduceBEq, Bool.or_true, Bool.true_or, Bool.or_false, Bool.false_or, Bool.or_self, Bool.and_true, Bool.true_and, Bool.and_false, Bool.false_and, beq_self_eq_true (α := Nat), Option.some_beq_some, Option.none_beq_some, Option.some_beq_none, Bool.false_eq_true, List.all_nil, touch, touchB, Nat.sub_self, List.range'_zero, Nat.add_sub_cancel_left, List.range'_one, h0]
      · simp only [vop, val, argsT, upd_ap, Nat.reduceEqDiff, if_true, if_false, ite_true, ite_false, reduceIte, loadAt, loadA, AV.cells, AV.one, List.all_cons, List.all_nil, ofV, ofCell, plain, List.getElem?_cons_zero, List.getElem?_cons_succ, List.getElem?_toArray, Option.getD_some, Bool.not_true, Bool.not_false, Bool.false_eq_true, Bool.and_true, Bool.true_and, Bool.and_self, Nat.zero_add, Option.map_some, Option.bind_some, List.map_cons, List.map_nil, ev_add, ev_sub, ev_mul, ev_lss, ev_leq, ev_gtr, ev_geq, ev_eql, ev_neq, ev_seql, ev_sneq, ev_sleq, ev_slss, ev_not, ev_min, ev_max, asNat_nat, asNat_zero, asNat_one, asNat_two, asNat_three, vb_len, List.length_cons, List.length_nil, Nat.reduceAdd, Nat.reduceLeDiff, Nat.reduceMul, Int.reduceEq, Int.reduceLT, Int.reduceLE, Int.reduceNeg, Int.reduceAdd, Int.reduceSub, Nat.reduceLT, decide_true, decide_false, not_true_eq_false, not_false_eq_true, and_self, and_true, true_and, storeA, List.take_zero, List.drop_succ_cons, List.drop_zero, List.nil_append, List.append_nil, List.take_succ_cons, List.cons_append, cut_cons, cut_zero, cut_skip, tAt, hHide, hAt, upsAt, List.contains_cons, List.contains_nil, Nat.reduceBEq, Bool.or_true, Bool.true_or, Bool.or_false, Bool.false_or, Bool.or_self, Bool.and_true, Bool.true_and, Bool.and_false, Bool.false_and, beq_self_eq_true (α := Nat), Option.some_beq_some, Option.none_beq_some, Option.some_beq_none, Bool.false_eq_true, List.all_nil, touch, touchB, Nat.sub_self, List.range'_zero, Nat.add_sub_cancel_left, List.range'_one, wi]
        rfl
      · simp only [vop, val, argsT, upd_ap, Nat.reduceEqDiff, if_true, if_false, ite_true, ite_false, reduceIte, loadAt, loadA, AV.cells, AV.one, List.all_cons, List.all_nil, ofV, ofCell, plain, List.getElem?_cons_zero, List.getElem?_cons_succ, List.getElem?_toArray, Option.getD_some, Bool.not_true, Bool.not_false, Bool.false_eq_true, Bool.and_true, Bool.true_and, Bool.and_self, Nat.zero_add, Option.map_some, Option.bind_some, List.map_cons, List.map_nil, ev_add, ev_sub, ev_mul, ev_lss, ev_leq, ev_gtr, ev_geq, ev_eql, ev_neq, ev_seql, ev_sneq, ev_sleq, ev_slss, ev_not, ev_min, ev_max, asNat_nat, asNat_zero, asNat_one, asNat_two, asNat_three, vb_len, List.length_cons, List.length_nil, Nat.reduceAdd, Nat.reduceLeDiff, Nat.reduceMul, Int.reduceEq, Int.reduceLT, Int.reduceLE, Int.reduceNeg, Int.reduceAdd, Int.reduceSub, Nat.reduceLT, decide_true, decide_false, not_true_eq_false, not_false_eq_true, and_self, and_true, true_and, storeA, List.take_zero, List.drop_succ_cons, List.drop_zero, List.nil_append, List.append_nil, List.take_succ_cons, List.cons_append, cut_cons, cut_zero, cut_skip, tAt, hHide, hAt, upsAt, List.contains_cons, List.contains_nil, Nat.reduceBEq, Bool.or_true, Bool.true_or, Bool.or_false, Bool.false_or, Bool.or_self, Bool.and_true, Bool.true_and, Bool.and_false, Bool.false_and, beq_self_eq_true (α := Nat), Option.some_beq_some, Option.none_beq_some, Option.some_beq_none, Bool.false_eq_true, List.all_nil, touch, touchB, Nat.sub_self, List.range'_zero, Nat.add_sub_cancel_left, List.range'_one, wj]
      · funext c
        by_cases hc : c = b
        · subst hc
          simp only [vop, val, argsT, upd_ap, Nat.reduceEqDiff, if_true, if_false, ite_true, ite_false, reduceIte, loadAt, loadA, AV.cells, AV.one, List.all_cons, List.all_nil, ofV, ofCell, plain, List.getElem?_cons_zero, List.getElem?_cons_succ, List.getElem?_toArray, Option.getD_some, Bool.not_true, Bool.not_false, Bool.false_eq_true, Bool.and_true, Bool.true_and, Bool.and_self, Nat.zero_add, Option.map_some, Option.bind_some, List.map_cons, List.map_nil, ev_add, ev_sub, ev_mul, ev_lss, ev_leq, ev_gtr, ev_geq, ev_eql, ev_neq, ev_seql, ev_sneq, ev_sleq, ev_slss, ev_not, ev_min, ev_max, asNat_nat, asNat_zero, asNat_one, asNat_two, asNat_three, vb_len, List.length_cons, List.length_nil, Nat.reduceAdd, Nat.reduceLeDiff, Nat.reduceMul, Int.reduceEq, Int.reduceLT, Int.reduceLE, Int.reduceNeg, Int.reduceAdd, Int.reduceSub, Nat.reduceLT, decide_true, decide_false, not_true_eq_false, not_false_eq_true, and_self, and_true, true_and, storeA, List.take_zero, List.drop_succ_cons, List.drop_zero, List.nil_append, List.append_nil, List.take_succ_cons, List.cons_append, cut_cons, cut_zero, cut_skip, tAt, hHide, hAt, upsAt, List.contains_cons, List.contains_nil, Nat.reduceBEq, Bool.or_true, Bool.true_or, Bool.or_false, Bool.false_or, Bool.or_self, Bool.and_true, Bool.true_and, Bool.and_false, Bool.false_and, beq_self_eq_true (α := Nat), Option.some_beq_some, Option.none_beq_some, Option.some_beq_none, Bool.false_eq_true, List.all_nil, touch, touchB, Nat.sub_self, List.range'_zero, Nat.add_sub_cancel_left, List.range'_one, lx, ly, s1, s2]
        · simp only [vop, val, argsT, upd_ap, Nat.reduceEqDiff, if_true, if_false, ite_true, ite_false, reduceIte, loadAt, loadA, AV.cells, AV.one, List.all_cons, List.all_nil, ofV, ofCell, plain, List.getElem?_cons_zero, List.getElem?_cons_succ, List.getElem?_toArray, Option.getD_some, Bool.not_true, Bool.not_false, Bool.false_eq_true, Bool.and_true, Bool.true_and, Bool.and_self, Nat.zero_add, Option.map_some, Option.bind_some, List.map_cons, List.map_nil, ev_add, ev_sub, ev_mul, ev_lss, ev_leq, ev_gtr, ev_geq, ev_eql, ev_neq, ev_seql, ev_sneq, ev_sleq, ev_slss, ev_not, ev_min, ev_max, asNat_nat, asNat_zero, asNat_one, asNat_two, asNat_three, vb_len, List.length_cons, List.length_nil, Nat.reduceAdd, Nat.reduceLeDiff, Nat.reduceMul, Int.reduceEq, Int.reduceLT, Int.reduceLE, Int.reduceNeg, Int.reduceAdd, Int.reduceSub, Nat.reduceLT, decide_true, decide_false, not_true_eq_false, not_false_eq_true, and_self, and_true, true_and, storeA, List.take_zero, List.drop_succ_cons, List.drop_zero, List.nil_append, List.append_nil, List.take_succ_cons, List.cons_append, cut_cons, cut_zero, cut_skip, tAt, hHide, hAt, upsAt, List.contains_cons, List.contains_nil, Nat.reduceBEq, Bool.or_true, Bool.true_or, Bool.or_false, Bool.false_or, Bool.or_self, Bool.and_true, Bool.true_and, Bool.and_false, Bool.false_and, beq_self_eq_true (α := Nat), Option.some_beq_some, Option.none_beq_some, Option.some_beq_none, Bool.false_eq_true, List.all_nil, touch, touchB, Nat.sub_self, List.range'_zero, Nat.add_sub_cancel_left, List.range'_one, hc]
    · have := hh.done hij hlt
      subst this
      refine wB1 (wa h0 (wa h2 (wa h3 hlt))) ?_
      exact hq
  · refine ⟨rfl, rfl, rfl, rfl, ⟨rfl, fun p hp => ?_⟩, ?_⟩
    · rw [if_neg (by omega)]
    · funext c
      by_cases hc : c = b
      · subst hc; simp [upd, hb]
      · simp [upd, hc]
end Go.Proofs.Bv
