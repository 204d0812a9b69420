/-
  A part of the proof of KindsBackUptoCardSaid: BvRangeWp, BvEv2.
  Conditions: those that each part names.
-/
import Derived.Test.YtegdndonafbcdaaGreatDoorKb07
set_option linter.unusedSimpArgs false
set_option linter.unusedVariables false
namespace Go.Proofs.Bv
open Go
section
variable {C : Cfg} {nt : Nat} {rd : Bool} {s : St} {h : Heap} {n : Nat}
def rangeEnd (T : Nat → AV) (b : Nat) (Q : Ex → St → Prop) (h : Heap) (n : Nat) : Prop :=
  b + 1 ≤ n ∧ match h b with
    | some (.loop l) =>
      match l.jump, l.open_ with
      | none, true => Q .norm ⟨T, upd h b none, n⟩
      | some .ret, _ => Q .ret ⟨T, upd h b none, n⟩
      | some (.exit id), _ => Q (.exit id) ⟨T, upd h b none, n⟩
      | _, _ => False
    | _ => False
theorem rangeEnd_norm {T : Nat → AV} {b : Nat} {Q : Ex → St → Prop} {L : LoopA} (hn : b + 1 ≤ n) (hL : h b = some (.loop L)) (hj : L.jump = none) (ho : L.open_ = true) (hq : Q .norm ⟨T, upd h b none, n⟩) : rangeEnd T b Q h n := by
  refine ⟨hn, ?_⟩
  rw [hL]
  simp only [hj, ho]
  exact hq
theorem rangeEnd_ret {T : Nat → AV} {b : Nat} {Q : Ex → St → Prop} {L : LoopA} (hn : b + 1 ≤ n) (hL : h b = some (.loop L)) (hj : L.jump = some .ret) (hq : Q .ret ⟨T, upd h b none, n⟩) : rangeEnd T b Q h n := by
  refine ⟨hn, ?_⟩
  rw [hL]
  simp only [hj]
  exact hq
theorem rangeEnd_exit {T : Nat → AV} {b id : Nat} {Q : Ex → St → Prop} {L : LoopA} (hn : b + 1 ≤ n) (hL : h b = some (.loop L)) (hj : L.jump = some (.exit id)) (hq : Q (.exit id) ⟨T, upd h b none, n⟩) : rangeEnd T b Q h n := by
  refine ⟨hn, ?_⟩
  rw [hL]
  simp only [hj]
  exact hq
theorem st_range {g : Operand} {ps : Array Tmp} {as body : Code} {Q : Ex → St → Prop} {f : FuncId} {caps : List AV} (hg : val C s.T g = .fn (.func f) caps)
    (hw : Gf C f (.fn (.yield s.n) [] :: caps) (upd s.h s.n (some (.loop ⟨s.T, nt, ps.toList, as, body, none, true⟩))) (s.n + 1) fun _ h n => rangeEnd s.T s.n Q h n) : Gc C nt false (.rangeFunc g ps as body) s Q := by
  obtain ⟨k, v, h', n', h1, h2, h3⟩ := hw.go
  split at h3 <;> try (exact h3.elim)
  rename_i L hL
  have key : ∀ e s', (match L.jump, L.open_ with
      | none, true => some (.norm, ⟨s.T, upd h' s.n none, n'⟩)
      | some .ret, _ => some (.ret, ⟨s.T, upd h' s.n none, n'⟩)
      | some (.exit id), _ => some (.exit id, ⟨s.T, upd h' s.n none, n'⟩)
      | _, _ => (none : Option (Ex × St))) = some (e, s') → vc C k nt false (.rangeFunc g ps as body) s = some (e, s') := by
    intro e s' hv
    unfold vc
    simp only [vcode, hg, h1, hL, Bool.false_eq_true, if_false]
    rw [if_neg (by omega)]
    exact hv
  split at h3
  · rename_i hj ho
    exact ⟨k, _, _, key _ _ (by simp only [hj, ho]), h3⟩
  · rename_i hj
    exact ⟨k, _, _, key _ _ (by simp only [hj]), h3⟩
  · rename_i hj
    exact ⟨k, _, _, key _ _ (by simp only [hj]), h3⟩
  · exact h3.elim
def roundEnd (b : Nat) (K : AV → Heap → Nat → Prop) : Ex → St → Prop := fun e s =>
  match s.h b with
  | some (.loop L) =>
    match e with
    | .norm => K (.sc (.bool true)) (upd s.h b (some (.loop { L with open_ := true, jump := none }))) s.n
    | .ret => K (.sc (.bool false)) (upd s.h b (some (.loop { L with open_ := false, jump := some .ret }))) s.n
    | .exit id => K (.sc (.bool false)) (upd s.h b (some (.loop { L with open_ := false, jump := some (.exit id) }))) s.n
  | _ => False
theorem roundEnd_norm {b : Nat} {K : AV → Heap → Nat → Prop} {L : LoopA} (hL : s.h b = some (.loop L)) (hk : K (.sc (.bool true)) (upd s.h b (some (.loop { L with open_ := true, jump := none }))) s.n) : roundEnd b K .norm s := by
  simp only [roundEnd, hL]; exact hk
theorem roundEnd_ret {b : Nat} {K : AV → Heap → Nat → Prop} {L : LoopA} (hL : s.h b = some (.loop L)) (hk : K (.sc (.bool false)) (upd s.h b (some (.loop { L with open_ := false, jump := some .ret }))) s.n) : roundEnd b K .ret s := by
  simp only [roundEnd, hL]; exact hk
theorem roundEnd_exit {b id : Nat} {K : AV → Heap → Nat → Prop} {L : LoopA} (hL : s.h b = some (.loop L)) (hk : K (.sc (.bool false)) (upd s.h b (some (.loop { L with open_ := false, jump := some (.exit id) }))) s.n) : roundEnd b K (.exit id) s := by
  simp only [roundEnd, hL]; exact hk
def roundMid (C : Cfg) (nt : Nat) (body : Code) (b : Nat) (K : AV → Heap → Nat → Prop) : Ex → St → Prop := fun e s =>
  e = .norm ∧ match s.h b with
    | some (.loop L) => (L.open_ && L.jump.isNone) = true ∧ Gc C nt true body ⟨s.T, upd s.h b (some (.loop { L with open_ := false })), s.n⟩ (roundEnd b K)
    | _ => False
theorem roundMid_of {body : Code} {b : Nat} {K : AV → Heap → Nat → Prop} {L : LoopA} (hL : s.h b = some (.loop L)) (ho : (L.open_ && L.jump.isNone) = true) (hk : Gc C nt true body ⟨s.T, upd s.h b (some (.loop { L with open_ := false })), s.n⟩ (roundEnd b K)) : roundMid C nt body b K .norm s := by
  refine ⟨rfl, ?_⟩
  simp only [hL]
  exact ⟨ho, hk⟩
theorem Wk_yield {b : Nat} {caps args : List AV} {L : LoopA} {T1 : Nat → AV} {K : AV → Heap → Nat → Prop} (hL : h b = some (.loop L)) (hok : (L.open_ && codeOk L.nt L.assign && codeOk L.nt L.body) = true) (hp : setParams L.nt L.params args L.T = some T1)
    (hw : Gc C L.nt true L.assign ⟨T1, h, n⟩ (roundMid C L.nt L.body b K)) : Wk C (.fn (.yield b) caps) args h n K := by
  obtain ⟨k1, e1, s1, h1, rfl, h2⟩ := hw.go
  split at h2 <;> try (exact h2.elim)
  rename_i L1 hL1
  obtain ⟨ho1, h2⟩ := h2
  obtain ⟨k2, e2, s2, h3, h4⟩ := h2.go
  unfold roundEnd at h4
  split at h4 <;> try (exact h4.elim)
  rename_i L2 hL2
  have g1 := vc_up (Nat.le_max_left k1 k2) _ h1
  have g2 := vc_up (Nat.le_max_right k1 k2) _ h3
  have key : ∀ r, (match e2 with
      | .norm => some (.sc (.bool true), upd s2.h b (some (.loop { L2 with open_ := true, jump := none })), s2.n)
      | .ret => some (.sc (.bool false), upd s2.h b (some (.loop { L2 with open_ := false, jump := some .ret })), s2.n)
      | .exit id => (some (.sc (.bool false), upd s2.h b (some (.loop { L2 with open_ := false, jump := some (.exit id) })), s2.n) : Out)) = some r →
      callOf C (lv C (max k1 k2 + 1)) (.fn (.yield b) caps) args h n = some r := by
    intro r hv
    show vyield C _ _ _ _ b args h n = some r
    unfold vyield
    rw [hL]
    simp only
    rw [if_pos hok, hp]
    simp only
    unfold vc at g1 g2
    rw [g1]
    simp only [hL1]
    rw [if_pos ho1]
    rw [g2]
    simp only [hL2]
    exact hv
  cases e2 with
  | norm => exact ⟨_, _, _, _, key _ rfl, h4⟩
  | ret => exact ⟨_, _, _, _, key _ rfl, h4⟩
  | exit id => exact ⟨_, _, _, _, key _ rfl, h4⟩
theorem st_yield {T : Nat → AV} {ops : Array Oper} {o : Oper} {l : List Oper} {Q : St → Prop} {f : Operand} {as : Array Operand} {ts : Array TypeId} {b : Nat} {args caps : List AV} {L : LoopA} {T1 : Nat → AV}
    (hop : o.op = .call { callee := .value f, args := as, argTypes := ts }) (hg : goes ops T o = some true) (hf : val C T f = .fn (.yield b) caps) (ha : as.toList.map (val C T) = args)
    (hL : h b = some (.loop L)) (hok : (L.open_ && codeOk L.nt L.assign && codeOk L.nt L.body) = true) (hp : setParams L.nt L.params args L.T = some T1)
    (hw : Gc C L.nt true L.assign ⟨T1, h, n⟩ (roundMid C L.nt L.body b (Gn C nt n T o.dst ops l Q))) : Gw C nt ops (o :: l) ⟨T, h, n⟩ Q := by
  refine ⟨?_⟩
  rw [Wo_cons, hg, Wg_true, hop, Ws_call, hf, ha]
  obtain ⟨k, v, h', n', e1, e2⟩ := Wk_yield (caps := caps) hL hok hp hw
  refine ⟨k, v, h', n', e1, e2.le, ?_⟩
  have := e2.go
  simp only [Gw_eq] at this
  exact this
theorem st_loop {c : Code} {Q : Ex → St → Prop} (hw : Gc C nt rd c s (onNorm (fun s => Gc C nt rd (.loop c) s Q) Q)) : Gc C nt rd (.loop c) s Q := by
  simp only [Gc_eq] at *
  exact Wc_loop.2 hw
end
end Go.Proofs.Bv
namespace Go.Proofs.Bv
open Go
section
variable {C : Cfg} {P : Program} {h : Heap} {n t : Nat} {xo yo : Operand}
theorem ev_shl {k yk : IntKind} {a b : Int} (hb : 0 ≤ b) : vbin P .shl t xo yo (.sc (.int k a)) (.sc (.int yk b)) = some (.sc (.int k (k.wrap (a * 2 ^ (min b.toNat k.bits))))) := by
  have : ¬ b < 0 := by omega
  simp [vbin, toVal, eqGuard, binOp, Op.shift, this, pureRun, scal, plain, bind, pure, Sem.bind]
theorem ev_shr {k yk : IntKind} {a b : Int} (hb : 0 ≤ b) : vbin P .shr t xo yo (.sc (.int k a)) (.sc (.int yk b)) = some (.sc (.int k (a.fdiv (2 ^ (min b.toNat k.bits))))) := by
  have : ¬ b < 0 := by omega
  simp [vbin, toVal, eqGuard, binOp, Op.shift, this, pureRun, scal, plain, bind, pure, Sem.bind]
theorem ev_and {k : IntKind} {a b : Int} : vbin P .and t xo yo (.sc (.int k a)) (.sc (.int k b)) = some (.sc (.int k (k.wrap ((BitVec.ofInt k.bits a &&& BitVec.ofInt k.bits b).toNat : Int)))) := by
  simp [vbin, toVal, eqGuard, binOp, Op.intBits, pureRun, scal, plain, bind, pure, Sem.bind]
theorem ev_or {k : IntKind} {a b : Int} : vbin P .or t xo yo (.sc (.int k a)) (.sc (.int k b)) = some (.sc (.int k (k.wrap ((BitVec.ofInt k.bits a ||| BitVec.ofInt k.bits b).toNat : Int)))) := by
  simp [vbin, toVal, eqGuard, binOp, Op.intBits, pureRun, scal, plain, bind, pure, Sem.bind]
theorem ev_xor {k : IntKind} {a b : Int} : vbin P .xor t xo yo (.sc (.int k a)) (.sc (.int k b)) = some (.sc (.int k (k.wrap ((BitVec.ofInt k.bits a ^^^ BitVec.ofInt k.bits b).toNat : Int)))) := by
  simp [vbin, toVal, eqGuard, binOp, Op.intBits, pureRun, scal, plain, bind, pure, Sem.bind]
theorem ev_andNot {k : IntKind} {a b : Int} : vbin P .andNot t xo yo (.sc (.int k a)) (.sc (.int k b)) = some (.sc (.int k (k.wrap ((BitVec.ofInt k.bits a &&& ~~~ BitVec.ofInt k.bits b).toNat : Int)))) := by
  simp [vbin, toVal, eqGuard, binOp, Op.intBits, pureRun, scal, plain, bind, pure, Sem.bind]
theorem ev_conv {src dst : TypeId} {d : TypeDesc} {k k0 : IntKind} {a : Int} (h1 : P.underlying src = some d) (h2 : P.underlying dst = some (.int k)) : ((pureRun P (convert src dst (.int k0 a))).bind scal) = some (.sc (.int k (k.wrap a))) := by
  simp only [convert, Go.underlying, program, bind, Sem.bind, h1, h2, pureRun, pure]
  cases d <;> simp [Conv.intToInt, pureRun, scal, plain, pure]
end
end Go.Proofs.Bv
