/-
  A part of the proof of CliLettersUptoCardSaid: BvPan, BvPan2, BvPanW, BvPanD, BvPanO.
  Conditions: those that each part names.
-/
import Derived.Test.YtplbncajfignlaaGreatDoorCl10
import Derived.RecoverIn
set_option linter.unusedSimpArgs false
set_option linter.unusedVariables false
namespace Go.Proofs.Bv
open Go
inductive Px where
  | ex (e : Ex)
  | pan (v : AV)
abbrev Ds := Option (List AV)
def RDl (Z : Nat → Prop) (w : World) : List AV → AMap → List Deferred → Prop
  | [], _, ds => ds = []
  | a :: l, m, ds => ∃ g caps us r, a = .fn (.func g) caps ∧ ds = { target := .fn (.func g) us.toArray, args := #[] } :: r ∧ RVl Z w caps m us ∧ RDl Z w l m r
def RD (w0 : Nat) (m : AMap) (Z : Nat → Prop) (h : Heap) (w : World) (D : Ds) (ds : List Deferred) : Prop :=
  match D with
  | none => DI w0 m Z h w ds
  | some l => RDl Z w l m ds
def exP (Z : Nat → Prop) (w : World) (m : AMap) (e : Px) (x : Exit) : Prop :=
  match e with
  | .ex e => x = exOf e
  | .pan v => ∃ u, x = .panic [{ v := u, recovered := false }] ∧ RV Z w v m u
section
variable {C : Cfg} {m m' : AMap} {Z Z' : Nat → Prop} {h h' : Heap} {n n' nt w0 : Nat} {w w' : World}
theorem RDl.mono (hZ : ∀ r, Z r → Z' r) (hw : ∀ r, Z r → w'.heap[r]? = w.heap[r]?) (hm : ∀ b x, m b = some x → m' b = some x) : (l : List AV) → {ds : List Deferred} → RDl Z w l m ds → RDl Z' w' l m' ds
  | [], _, d => d
  | a :: l, _, d => by
    obtain ⟨g, caps, us, r, e1, e2, h1, h2⟩ := d
    exact ⟨g, caps, us, r, e1, e2, RVl_mono hZ hw caps hm h1, RDl.mono hZ hw hm l h2⟩
theorem RD.step {D : Ds} {ds : List Deferred} (d : RD w0 m Z h w D ds) (hr : HR C m Z h w) (s : Step C m Z h n w m' Z' h' n' w') : RD w0 m' Z' h' w' D ds := by
  cases D with
  | none => exact DI.step d s
  | some l => exact RDl.mono s.zext (s.zkeep hr) s.mext l d
structure Snd (C : Cfg) : Prop where
  nn : NoNum C
  orc : OrcOk C
  mix : C.P.follows .mixedOrders = true
structure Tc (C : Cfg) (nt : Nat) (c : Code) (s : St) (D : Ds) (Q : Px → St → Ds → Prop) : Prop where
  go : Snd C → codeOk nt c = true → ∀ (w0 : Nat) (m : AMap) (Z : Nat → Prop) (a : Act) (w : World) (R : Exit → Act → World → Prop), HR C m Z s.h w → RT Z w nt s.T m a.tmps → RD w0 m Z s.h w D a.defers → w0 ≤ w.heap.size → (∀ b, s.n ≤ b → m b = none) →
    (∀ e s' D' x a' w' m' Z', Q e s' D' → exP Z' w' m' e x → Step C m Z s.h s.n w m' Z' s'.h s'.n w' → RT Z' w' nt s'.T m' a'.tmps → RD w0 m' Z' s'.h w' D' a'.defers → R x a' w') → c.wpIn Fence.wide 0 C.P R a w
theorem Step.freshA (s : Step C m Z h n w m' Z' h' n' w') (hf : ∀ b, n ≤ b → m b = none) : ∀ b, n' ≤ b → m' b = none :=
  fun b hb => s.fresh (n'' := b + 1) (fun b h1 _ => hf b h1) b hb (Nat.lt_succ_self b)
def onNormP (K : St → Ds → Prop) (Q : Px → St → Ds → Prop) : Px → St → Ds → Prop
  | .ex .norm, s, D => K s D
  | e, s, D => Q e s D
def onExitP (id : Nat) (Q : Px → St → Ds → Prop) : Px → St → Ds → Prop
  | .ex (.exit j), s, D => Q (.ex (if j = id then .norm else .exit j)) s D
  | e, s, D => Q e s D
variable {s : St} {D : Ds} {Q : Px → St → Ds → Prop} {a b : Code} {id j : Nat}
theorem Tc.mono {Q' : Px → St → Ds → Prop} (hw : Tc C nt a s D Q) (hq : ∀ e s D, Q e s D → Q' e s D) : Tc C nt a s D Q' :=
  ⟨fun hS hok w0 m Z a w R hr hT hD hw0 hf hR => hw.go hS hok w0 m Z a w R hr hT hD hw0 hf fun e s' D' x a' w' m' Z' q => hR e s' D' x a' w' m' Z' (hq _ _ _ q)⟩
theorem t_skip (hq : Q (.ex .norm) s D) : Tc C nt .skip s D Q :=
  ⟨fun _ _ w0 m Z a w R hr hT hD _ _ hR => wpIn_skip (hR _ _ _ _ a w m Z hq rfl (Step.refl hr) hT hD)⟩
theorem t_exit (hq : Q (.ex (.exit id)) s D) : Tc C nt (.exit id) s D Q :=
  ⟨fun _ _ w0 m Z a w R hr hT hD _ _ hR => wpIn_exit (hR _ _ _ _ a w m Z hq rfl (Step.refl hr) hT hD)⟩
theorem t_ret (hq : Q (.ex .ret) s D) : Tc C nt .ret s D Q :=
  ⟨fun _ _ w0 m Z a w R hr hT hD _ _ hR => wpIn_ret (hR _ _ _ _ a w m Z hq rfl (Step.refl hr) hT hD)⟩
theorem t_seq (hw : Tc C nt a s D (onNormP (fun s D => Tc C nt b s D Q) Q)) : Tc C nt (.seq a b) s D Q := by
  refine ⟨fun hS hok w0 m Z ac w R hr hT hD hw0 hf hR => wpIn_seq ?_⟩
  simp only [codeOk, Bool.and_eq_true] at hok
  refine hw.go hS hok.1 w0 m Z ac w _ hr hT hD hw0 hf fun e s1 D1 x a1 w1 m1 Z1 q hx st hT1 hD1 => ?_
  cases e with
  | pan v =>
    obtain ⟨u, rfl, hu⟩ := hx
    exact hR _ _ _ _ a1 w1 m1 Z1 q ⟨u, rfl, hu⟩ st hT1 hD1
  | ex e =>
    cases hx
    cases e with
    | norm => exact q.go hS hok.2 w0 m1 Z1 a1 w1 R st.hr hT1 hD1 (Nat.le_trans hw0 st.size) (st.freshA hf) fun e s2 D2 x a2 w2 m2 Z2 q2 hx2 st2 => hR e s2 D2 x a2 w2 m2 Z2 q2 hx2 (st.trans st2)
    | exit id => exact hR _ _ _ _ a1 w1 m1 Z1 q rfl st hT1 hD1
    | ret => exact hR _ _ _ _ a1 w1 m1 Z1 q rfl st hT1 hD1
theorem t_cond {c : Operand} (hc : Ev (val C s.T c) (KB fun t => Gb t (Tc C nt a s D Q) (Tc C nt b s D Q))) : Tc C nt (.cond c a b) s D Q := by
  obtain ⟨t, h1, h2⟩ := hc.go.go
  refine ⟨fun hS hok w0 m Z ac w R hr hT hD hw0 hf hR => ?_⟩
  simp only [codeOk, Bool.and_eq_true] at hok
  have hx := val_sound hr hT c
  rw [h1] at hx
  simp only [RV] at hx
  refine wpIn_cond hx.1 ?_
  cases t with
  | true => exact (h2.go.1 rfl).go hS hok.1 w0 m Z ac w R hr hT hD hw0 hf hR
  | false => exact (h2.go.2 rfl).go hS hok.2 w0 m Z ac w R hr hT hD hw0 hf hR
theorem t_block (hw : Tc C nt a s D (onExitP id Q)) : Tc C nt (.block id a) s D Q := by
  refine ⟨fun hS hok w0 m Z ac w R hr hT hD hw0 hf hR => wpIn_block ?_⟩
  simp only [codeOk] at hok
  refine hw.go hS hok w0 m Z ac w _ hr hT hD hw0 hf fun e s1 D1 x a1 w1 m1 Z1 q hx st hT1 hD1 => ?_
  cases e with
  | pan v =>
    obtain ⟨u, rfl, hu⟩ := hx
    exact hR _ _ _ _ a1 w1 m1 Z1 q ⟨u, rfl, hu⟩ st hT1 hD1
  | ex e =>
    cases hx
    cases e with
    | norm => exact hR _ _ _ _ a1 w1 m1 Z1 q rfl st hT1 hD1
    | ret => exact hR _ _ _ _ a1 w1 m1 Z1 q rfl st hT1 hD1
    | exit j =>
      show (if j = id then R .normal a1 w1 else R (.exit j) a1 w1)
      have q : Q (.ex (if j = id then .norm else .exit j)) s1 D1 := q
      split
      · rename_i hj
        rw [if_pos hj] at q
        exact hR _ _ _ _ a1 w1 m1 Z1 q rfl st hT1 hD1
      · rename_i hj
        rw [if_neg hj] at q
        exact hR _ _ _ _ a1 w1 m1 Z1 q rfl st hT1 hD1
theorem t_loop (I : Nat → St → Ds → Prop) (hs : ∀ k s D, I k s D → Tc C nt a s D (onNormP (fun s' D' => ∃ k', k' < k ∧ I k' s' D') Q)) (k : Nat) (s : St) (D : Ds) (h : I k s D) : Tc C nt (.loop a) s D Q := by
  refine ⟨fun hS hok w0 m Z ac w R hr hT hD hw0 hf hR => wpIn_loop_rounds (k + 1) ?_⟩
  simp only [codeOk] at hok
  have key : ∀ j k, k < j → ∀ (s : St) (D : Ds), I k s D → ∀ (m : AMap) (Z : Nat → Prop) (ac : Act) (w : World), HR C m Z s.h w → RT Z w nt s.T m ac.tmps → RD w0 m Z s.h w D ac.defers → w0 ≤ w.heap.size → (∀ b, s.n ≤ b → m b = none) →
      (∀ e s' D' x a' w' m' Z', Q e s' D' → exP Z' w' m' e x → Step C m Z s.h s.n w m' Z' s'.h s'.n w' → RT Z' w' nt s'.T m' a'.tmps → RD w0 m' Z' s'.h w' D' a'.defers → R x a' w') → Code.roundsIn Fence.wide 0 C.P a R j ac w := by
    intro j
    induction j with
    | zero => intro k hk; omega
    | succ j ih =>
      intro k hk s D h m Z ac w hr hT hD hw0 hf hR
      rw [roundsIn_succ]
      refine (hs k s D h).go hS hok w0 m Z ac w _ hr hT hD hw0 hf fun e s1 D1 x a1 w1 m1 Z1 q hx st hT1 hD1 => ?_
      cases e with
      | pan v =>
        obtain ⟨u, rfl, hu⟩ := hx
        exact hR _ _ _ _ a1 w1 m1 Z1 q ⟨u, rfl, hu⟩ st hT1 hD1
      | ex e =>
        cases hx
        cases e with
        | exit j => exact hR _ _ _ _ a1 w1 m1 Z1 q rfl st hT1 hD1
        | ret => exact hR _ _ _ _ a1 w1 m1 Z1 q rfl st hT1 hD1
        | norm =>
          obtain ⟨k', hk', hi⟩ := q
          exact ih k' (by omega) s1 D1 hi m1 Z1 a1 w1 st.hr hT1 hD1 (Nat.le_trans hw0 st.size) (st.freshA hf) fun e s2 D2 x a2 w2 m2 Z2 q2 hx2 st2 => hR e s2 D2 x a2 w2 m2 Z2 q2 hx2 (st.trans st2)
  exact key (k + 1) k (Nat.lt_succ_self k) s D h m Z ac w hr hT hD hw0 hf hR
structure So (C : Cfg) (nt : Nat) (o : Oper) (T : Nat → AV) (h : Heap) (n : Nat) (D : Ds) (K : AV → Heap → Nat → Ds → Prop) (QP : AV → Heap → Nat → Prop) : Prop where
  go : Snd C → ∀ (w0 : Nat) (m : AMap) (Z : Nat → Prop) (a : Act) (w : World) (next : Act → World → Prop) (R : Exit → Act → World → Prop), HR C m Z h w → RT Z w nt T m a.tmps → RD w0 m Z h w D a.defers → w0 ≤ w.heap.size → (∀ b, n ≤ b → m b = none) →
    (∀ v h' n' D' u (a1 : Act) w' m' Z', K v h' n' D' → Step C m Z h n w m' Z' h' n' w' → RV Z' w' v m' u → a1.tmps = a.tmps → RD w0 m' Z' h' w' D' a1.defers → next (a1.put o.dst u) w') →
    (∀ v h' n' u w' m' Z', QP v h' n' → Step C m Z h n w m' Z' h' n' w' → RV Z' w' v m' u → R (.panic [{ v := u, recovered := false }]) a w') →
    o.wpIn Fence.wide 0 C.P a w next R
structure To (C : Cfg) (nt : Nat) (ops : Array Oper) (l : List Oper) (s : St) (D : Ds) (Q : Px → St → Ds → Prop) : Prop where
  go : Snd C → ∀ i, ops.toList.drop i = l → dstsOk nt ops → ∀ (w0 : Nat) (m : AMap) (Z : Nat → Prop) (a : Act) (w : World) (R : Exit → Act → World → Prop), HR C m Z s.h w → RT Z w nt s.T m a.tmps → RD w0 m Z s.h w D a.defers → w0 ≤ w.heap.size → (∀ b, s.n ≤ b → m b = none) →
    (∀ e s' D' x a' w' m' Z', Q e s' D' → exP Z' w' m' e x → Step C m Z s.h s.n w m' Z' s'.h s'.n w' → RT Z' w' nt s'.T m' a'.tmps → RD w0 m' Z' s'.h w' D' a'.defers → R x a' w') →
    wpOpsIn Fence.wide 0 C.P ops R (List.range' i (ops.size - i)) a w
variable {ops : Array Oper} {o : Oper} {l : List Oper} {T T' : Nat → AV} {v : AV}
theorem t_region (hw : To C nt ops ops.toList s D Q) : Tc C nt (.region id ops false) s D Q := by
  refine ⟨fun hS hok w0 m Z ac w R hr hT hD hw0 hf hR => wpIn_region ?_⟩
  have := hw.go hS 0 rfl (dstsOk_of hok) w0 m Z ac w R hr hT hD hw0 hf hR
  simpa [List.range_eq_range'] using this
theorem t_sr {b : Code} (hw : To C nt ops ops.toList s D (onNormP (fun s D => Tc C nt b s D Q) Q)) : Tc C nt (.seq (.region id ops false) b) s D Q := t_seq (t_region hw)
theorem t_nil (hq : Q (.ex .norm) s D) : To C nt ops [] s D Q := by
  refine ⟨fun _ i hl _ w0 m Z a w R hr hT hD _ _ hR => ?_⟩
  have hi : ops.size ≤ i := by
    have := congrArg List.length hl
    simp at this
    omega
  have : ops.size - i = 0 := by omega
  rw [this]
  exact hR _ _ _ _ a w m Z hq rfl (Step.refl hr) hT hD
theorem drop_cons {i : Nat} (hl : ops.toList.drop i = o :: l) : i < ops.size ∧ ops[i]? = some o ∧ ops.toList.drop (i + 1) = l ∧ List.range' i (ops.size - i) = i :: List.range' (i + 1) (ops.size - (i + 1)) := by
  have hlt : i < ops.size := by
    rcases Nat.lt_or_ge i ops.size with h | h
    · exact h
    · rw [List.drop_eq_nil_of_le (by simpa using h)] at hl; cases hl
  refine ⟨hlt, ?_, ?_, ?_⟩
  · have := congrArg List.head? hl
    simp only [List.head?_drop, List.head?_cons] at this
    simpa using this
  · have := congrArg List.tail hl
    simpa using this
  · rw [show ops.size - i = (ops.size - (i + 1)) + 1 from by omega, List.range'_succ]
theorem to_so {T : Nat → AV} {h : Heap} {n : Nat} (hg : goes ops T o = some true)
    (hw : So C nt o T h n D (fun v h' n' D' => ∃ T', putT nt T o.dst v = some T' ∧ To C nt ops l ⟨T', h', n'⟩ D' Q) (fun v h' n' => Q (.pan v) ⟨T, h', n'⟩ D)) : To C nt ops (o :: l) ⟨T, h, n⟩ D Q := by
  refine ⟨fun hS i hl hds w0 m Z a w R hr hT hD hw0 hf hR => ?_⟩
  obtain ⟨hlt, ho, hl', hrange⟩ := drop_cons hl
  rw [hrange]
  simp only [wpOpsIn, ho]
  rw [goes_sound hT hg (fun j c d _ hd => hds j d hd), if_pos rfl]
  refine hw.go hS w0 m Z a w _ R hr hT hD hw0 hf (fun v h1 n1 D1 u a1 w1 m1 Z1 q st hu ha hD1 => ?_) (fun v h1 n1 u w1 m1 Z1 q st hu => ?_)
  · obtain ⟨T', hp, hto⟩ := q
    have hT1 := (RT.put (a := a1) (by rw [ha]; exact st.rt hr hT) hu hp)
    exact hto.go hS (i + 1) hl' hds w0 m1 Z1 _ w1 R st.hr hT1 (by rw [put_defers]; exact hD1) (Nat.le_trans hw0 st.size) (st.freshA hf) fun e s2 D2 x a2 w2 m2 Z2 q2 hx2 st2 => hR e s2 D2 x a2 w2 m2 Z2 q2 hx2 (st.trans st2)
  · exact hR _ _ _ _ a w1 m1 Z1 q ⟨u, rfl, hu⟩ st (st.rt hr hT) (hD.step hr st)
theorem to_off {h : Heap} {n : Nat} (hg : goes ops T o = some false) (hp : putT nt T o.dst (.tup []) = some T') (hw : To C nt ops l ⟨T', h, n⟩ D Q) : To C nt ops (o :: l) ⟨T, h, n⟩ D Q := by
  refine ⟨fun hS i hl hds w0 m Z a w R hr hT hD hw0 hf hR => ?_⟩
  obtain ⟨hlt, ho, hl', hrange⟩ := drop_cons hl
  rw [hrange]
  simp only [wpOpsIn, ho]
  rw [goes_sound hT hg (fun j c d _ hd => hds j d hd)]
  simp only [Bool.false_eq_true, if_false]
  refine ⟨fun _ _ => trivial, ?_⟩
  have hT1 := hT.put (u := undef) (v := .tup []) (by simp only [RV, RVl]; exact ⟨[], rfl, rfl⟩) hp
  exact hw.go hS (i + 1) hl' hds w0 m Z _ w R hr hT1 (by rw [put_defers]; exact hD) hw0 hf hR
theorem so_vop {K : AV → Heap → Nat → Ds → Prop} {QP : AV → Heap → Nat → Prop} {h : Heap} {n : Nat} (hv : vop C.P (val C T) h n o.op = some (v, h', n')) (hk : K v h' n' D) : So C nt o T h n D K QP := by
  refine ⟨fun hS w0 m Z a w next R hr hT hD hw0 hf hK _ => ⟨fun _ _ => trivial, ?_⟩⟩
  have hnd : ∀ c, o.op ≠ .defer c := by
    intro c e
    rw [e] at hv
    simp [vop] at hv
  rw [Oper.semAt_eq _ _ _ hnd]
  obtain ⟨nx, w', m', Z', u, h1, h2, h3, h4⟩ := vop_sound hr (fun b hb _ => hf b hb) (val_sound hr hT) hv
  rw [h1]
  rcases h2 with rfl | ⟨rfl, rfl⟩
  · exact hK v h' n' D u a w' m' Z' hk h3 h4 rfl (hD.step hr h3)
  · exact hK v h' n' D undef a w' m' Z' hk h3 h4 rfl (hD.step hr h3)
def asIfc : AV → Option (TypeId × AV)
  | .ifc t a => some (t, a)
  | _ => none
theorem so_panic {K : AV → Heap → Nat → Ds → Prop} {QP : AV → Heap → Nat → Prop} {h : Heap} {n : Nat} {x : Operand} {t : TypeId} {v : AV} (hop : o.op = .panic x) (hv : asIfc (val C T x) = some (t, v)) (hq : QP (.ifc t v) h n) : So C nt o T h n D K QP := by
  refine ⟨fun hS w0 m Z a w next R hr hT hD hw0 hf _ hP => ⟨fun _ _ => trivial, ?_⟩⟩
  obtain ⟨dst, op, ty, pos, after, guard⟩ := o
  simp only at hop
  subst hop
  have hx := val_sound hr hT x
  unfold asIfc at hv
  split at hv <;> try (cases hv; done)
  rename_i t' v' e
  simp only [Option.some.injEq, Prod.mk.injEq] at hv
  obtain ⟨rfl, rfl⟩ := hv
  rw [e] at hx
  have hx2 := hx
  simp only [RV] at hx2
  obtain ⟨u, hu, _⟩ := hx2
  have : (Oper.semAt Fence.wide.round a.eval ⟨dst, .panic x, ty, pos, after, guard⟩).run C.P w = .halt (.panic (a.eval x)) w := by
    show (execOp a.eval ⟨dst, .panic x, ty, pos, after, guard⟩).run C.P w = _
    simp only [execOp, hu, Instr.panic]
    rfl
  rw [this, Oper.uponIn_panic]
  exact hP _ _ _ _ _ _ _ hq (Step.refl hr) hx
def notIfc : Option TypeDesc → Bool
  | some (.interface _) => false
  | some _ => true
  | none => false
theorem so_mki {K : AV → Heap → Nat → Ds → Prop} {QP : AV → Heap → Nat → Prop} {h : Heap} {n : Nat} {x : Operand} {t : TypeId} (hop : o.op = .makeInterface t x) (ht : notIfc (C.P.underlying t) = true) (hk : K (.ifc t (val C T x)) h n D) : So C nt o T h n D K QP := by
  refine ⟨fun hS w0 m Z a w next R hr hT hD hw0 hf hK _ => ⟨fun _ _ => trivial, ?_⟩⟩
  obtain ⟨dst, op, ty, pos, after, guard⟩ := o
  simp only at hop
  subst hop
  have hx := val_sound hr hT x
  cases hd : C.P.underlying t with
  | none => rw [hd] at ht; cases ht
  | some d =>
    have : (Oper.semAt Fence.wide.round a.eval ⟨dst, .makeInterface t x, ty, pos, after, guard⟩).run C.P w = .ok (.value (.iface t (a.eval x))) w := by
      show (execOp a.eval ⟨dst, .makeInterface t x, ty, pos, after, guard⟩).run C.P w = _
      simp only [execOp, Instr.makeInterface, Sem.run_bind, run_under hd, Result.andThen_ok]
      rw [hd] at ht
      cases d <;> first | (cases ht; done) | rfl
    rw [this, Oper.uponIn_value]
    exact hK _ _ _ _ _ a _ _ _ hk (Step.refl hr) (by simp only [RV]; exact ⟨_, rfl, hx⟩) rfl hD
theorem so_cl {K : AV → Heap → Nat → Ds → Prop} {QP : AV → Heap → Nat → Prop} {h : Heap} {n : Nat} {k : Nat} {f : Operand} {as : Array Operand} {ts : Array TypeId} (hop : o.op = .call { callee := .value f, args := as, argTypes := ts })
    (hv : callOf C (lv C k) (val C T f) (as.toList.map (val C T)) h n = some (v, h', n')) (hle : n ≤ n') (hk : K v h' n' D) : So C nt o T h n D K QP := by
  refine ⟨fun hS w0 m Z a w next R hr hT hD hw0 hf hK _ => ?_⟩
  refine vstep_sound (r := none) (callOf_ok (lv_ok hS.nn hS.orc hS.mix k).1 (lv_ok hS.nn hS.orc hS.mix k).2 hS.orc) hr (fun b hb _ => hf b hb) hle (val_sound hr hT) (v := v) (by rw [hop]; exact hv) next R fun u w1 m1 Z1 st hu => ?_
  exact hK _ _ _ _ _ a _ _ _ hk st hu rfl (hD.step hr st)
structure Pf (C : Cfg) (f : FuncId) (args : List AV) (h : Heap) (n : Nat) (Q : Bool → AV → Heap → Nat → Prop) : Prop where
  go : Snd C → ∀ (m : AMap) (Z : Nat → Prop) (w : World) (us : List Value), HR C m Z h w → RVl Z w args m us → (∀ b, n ≤ b → m b = none) →
    (callFunc f us.toArray).run C.P w = .ok (.enter f us.toArray) w ∧
    CallsIn Fence.wide 0 C.P f us.toArray w fun e w' => ∃ p v h' n' m' Z' u, Q p v h' n' ∧ e = (if p then .panicked [{ v := u, recovered := false }] else .returned u) ∧ Step C m Z h n w m' Z' h' n' w' ∧ RV Z' w' v m' u
theorem so_pf {K : AV → Heap → Nat → Ds → Prop} {QP : AV → Heap → Nat → Prop} {h : Heap} {n : Nat} {f : Operand} {as : Array Operand} {ts : Array TypeId} {g : FuncId} {all : List AV} (hop : o.op = .call { callee := .value f, args := as, argTypes := ts }) (ha : cArgs C T f as = some (g, all))
    {Qf : Bool → AV → Heap → Nat → Prop} (hp : Pf C g all h n Qf) (hk : ∀ v h' n', Qf false v h' n' → K v h' n' D) (hq : ∀ v h' n', Qf true v h' n' → QP v h' n') : So C nt o T h n D K QP := by
  obtain ⟨caps, hf, rfl⟩ := cArgs_iff ha
  refine ⟨fun hS w0 m Z a w next R hr hT hD hw0 hfr hK hP => ⟨fun _ _ => trivial, ?_⟩⟩
  obtain ⟨dst, op, ty, pos, after, guard⟩ := o
  simp only at hop
  subst hop
  have hx := val_sound hr hT f
  rw [hf] at hx
  simp only [RV] at hx
  obtain ⟨us, hx, hus⟩ := hx
  have hargs := RVl_map (val C T) a.eval (val_sound hr hT) as.toList
  have hall := RVl_append hargs hus
  obtain ⟨h1, h2⟩ := hp.go hS m Z w _ hr hall hfr
  have e : (Oper.semAt Fence.wide.round a.eval ⟨dst, .call { callee := .value f, args := as, argTypes := ts }, ty, pos, after, guard⟩).run C.P w = (callFunc g (as.toList.map a.eval ++ us).toArray).run C.P w := by
    show (execOp a.eval ⟨dst, .call { callee := .value f, args := as, argTypes := ts }, ty, pos, after, guard⟩).run C.P w = _
    simp only [execOp, resolve, hx, Deferred.ofValue, Sem.run_bind, Sem.run_pure, Result.andThen_ok, invoke]
    congr 2
    apply Array.ext'
    simp
  rw [e, h1, Oper.uponIn_enter]
  refine ⟨fun h => by simp [Fence.wide] at h, CallsIn.mono h2 ?_⟩
  rintro e w1 ⟨p, v, h', n', m1, Z1, u, q, rfl, st, hu⟩
  cases p with
  | false => exact hK _ _ _ _ _ a _ _ _ (hk _ _ _ q) st hu rfl (hD.step hr st)
  | true => exact hP _ _ _ _ _ _ _ (hq _ _ _ q) st hu
theorem t_G {Q : Ex → St → Prop} (hw : Gc C nt false a s Q) : Tc C nt a s none (fun e s' D' => D' = none ∧ ∃ e0, e = .ex e0 ∧ Q e0 s') := by
  obtain ⟨k, e, s', hv, hq⟩ := hw.go
  refine ⟨fun hS hok w0 m Z ac w R hr hT hD hw0 hf hR => ?_⟩
  have ih := lv_ok hS.nn hS.orc hS.mix k
  exact vcode_sound (r := none) (callOf_ok ih.1 ih.2 hS.orc) ih.1 (vdraw_ok ih.1 hS.orc hS.mix) (fun _ => rfl) a hok hv _ hr hT hD hw0 (fun b hb _ => hf b hb) fun a' w' m' Z' st hT' hD' => hR _ _ _ _ a' w' m' Z' ⟨rfl, e, rfl, hq⟩ rfl st hT' hD'
theorem t_dr {Q : Px → St → Ds → Prop} (hw : Gc C nt false (.region id ops true) s fun e s' => Q (.ex e) s' D) : Tc C nt (.region id ops true) s D Q := by
  obtain ⟨k, e, s', hv, hq⟩ := hw.go
  refine ⟨fun hS hok w0 m Z ac w R hr hT hD hw0 hf hR => ?_⟩
  have ih := lv_ok hS.nn hS.orc hS.mix k
  simp only [vc, vcode, if_true, Option.map_eq_some_iff] at hv
  obtain ⟨s1, h1, h2⟩ := hv
  injection h2 with h2 h3
  subst h2; subst h3
  exact (vdraw_ok ih.1 hS.orc hS.mix).2 nt ops s s1 h1 (dstsOk_of hok) id none R m Z ac w hr hT (fun b hb _ => hf b hb) fun a' w' m' Z' st hT' he => hR _ _ _ _ a' w' m' Z' hq rfl st hT' (by rw [he]; exact hD.step hr st)
theorem leaves_marksP {F : Fence} {k : Nat} {P : Program} {fn : Func} {tm : Array Value} {R : Ending → World → Prop} {ch : List PanicEntry} : (rs : List Nat) → {w1 : World} → rs.Nodup → (∀ r ∈ rs, w1.heap[r]? = some (.deferred (some []))) →
    (∀ w2, Poked rs w1 w2 → R (.panicked ch) w2) → LeavesInM F k P fn tm R (rs.map markOf) (.panicking ch) w1
  | [], w1, _, _, hq => hq w1 ⟨rfl, fun _ _ => rfl, rfl, rfl, rfl⟩
  | r :: rs, w1, nd, hrs, hq => by
    have h1 := hrs r (by simp)
    obtain ⟨nd1, nd2⟩ := List.nodup_cons.1 nd
    refine ⟨by simp, .inl ⟨r, { w1 with heap := w1.heap.setIfInBounds r (.deferred none) }, rfl, ?_, ?_⟩⟩
    · simp [Instr.takeDeferred, getObj, setObj, Sem.run, h1]
    · refine leaves_marksP rs nd2 (fun q hq' => ?_) fun w2 hp => hq w2 ?_
      · rw [heap_set_ne _ (fun e => nd1 (by rw [← e]; exact hq'))]
        exact hrs q (by simp [hq'])
      · obtain ⟨p1, p2, p3, p4, p5⟩ := hp
        refine ⟨by rw [p1, heap_set_size], fun q hq' => ?_, p3, p4, p5⟩
        simp only [List.mem_cons, not_or] at hq'
        rw [p2 q hq'.2, heap_set_ne _ hq'.1]
theorem RT_args {args : List AV} {us : List Value} (hus : RVl Z w args m us) (hlen : args.length ≤ nt) : RT Z w nt (argsT args) m (us.toArray ++ Array.replicate (nt - us.toArray.size) undef) := by
  have hul := RVl_len hus
  refine ⟨by simp; omega, fun t => ?_⟩
  unfold argsT
  cases ha : args[t]? with
  | none => simp only [Option.getD_none, RV]
  | some a =>
    obtain ⟨u, h1, h2⟩ := RVl_get hus t ha
    have hlt : t < us.length := by
      rcases Nat.lt_or_ge t us.length with h | h
      · exact h
      · rw [List.getElem?_eq_none h] at h1; cases h1
    have : (us.toArray ++ Array.replicate (nt - us.toArray.size) undef).getD t undef = u := by
      rw [Array.getD_eq_getD_getElem?, Array.getElem?_append_left (by simpa using hlt)]
      simp [h1]
    rw [this]
    simpa using h2
def TWr (C : Cfg) (rs : Array ResultVar) (Q : Bool → AV → Heap → Nat → Prop) : Px → St → Ds → Prop
  | .ex .norm, s, none | .ex .ret, s, none => ∃ vs, retsA C s.T s.h rs.toList = some vs ∧ Q false (one1 vs) s.h s.n
  | .pan v, s, none => Q true v s.h s.n
  | _, _, _ => False
theorem pf_enter {f : FuncId} {fn : Func} {c : Code} {args : List AV} {h : Heap} {n : Nat} {Q : Bool → AV → Heap → Nat → Prop} (hf : C.P.funcs[f]? = some fn) (hc : fn.body = some c) (hok : codeOk fn.ntmps c = true) (ha : Nat.ble args.length fn.ntmps = true)
    (hw : Tc C fn.ntmps c ⟨argsT args, h, n⟩ none (TWr C fn.results Q)) : Pf C f args h n Q := by
  refine ⟨fun hS m Z w us hr hus hfr => ?_⟩
  have hlen := Nat.le_of_ble_eq_true ha
  have hnf := hS.nn f fn hf
  simp only [beq_eq_false_iff_ne, ne_eq] at hnf
  refine ⟨by simp [callFunc, hf, hnf, hc], ?_⟩
  refine callsIn_of_wp_marks (F := Fence.wide) hf hc trivial ?_ rfl
  have hT := RT_args (nt := fn.ntmps) hus hlen
  have hD : DI w.heap.size m Z h w [] := ⟨[], rfl, List.nodup_nil, by simp⟩
  refine hw.go hS hok w.heap.size m Z _ w _ hr hT hD (Nat.le_refl _) hfr fun e s1 D1 x a1 w1 m1 Z1 q hx st hT1 hD1 => ?_
  have fin : ∀ vs, D1 = none → retsA C s1.T s1.h fn.results.toList = some vs → Q false (one1 vs) s1.h s1.n → LeavesInM Fence.wide 0 C.P fn a1.tmps (fun e w' => ∃ p v h' n' m' Z' u, Q p v h' n' ∧ e = (if p then .panicked [{ v := u, recovered := false }] else .returned u) ∧ Step C m Z h n w m' Z' h' n' w' ∧ RV Z' w' v m' u) a1.defers .returning w1 := by
    rintro vs rfl hrs hq
    obtain ⟨rs, e, nd, hrs'⟩ := hD1
    rw [e]
    refine leaves_marks rs nd (fun r hr' => (hrs' r hr').2.2.1) fun w2 hp => ?_
    have s2 := st.poke hp fun r hr' => ⟨(hrs' r hr').1, (hrs' r hr').2.2.2⟩
    have hT2 : RT Z1 w2 fn.ntmps s1.T m1 a1.tmps := RT_mono (fun _ h => h) (fun r e => hp.2.1 r fun e' => (hrs' r e').2.2.2.2 e) (fun _ _ h => h) hT1
    obtain ⟨u, h1, h2⟩ := results_sound s2.hr hT2 fn hrs
    exact ⟨u, h1, false, _, _, _, m1, Z1, u, hq, rfl, s2, h2⟩
  cases e with
  | pan v =>
    cases D1 with
    | some l => exact q.elim
    | none =>
      obtain ⟨u, rfl, hu⟩ := hx
      show LeavesInM Fence.wide 0 C.P fn a1.tmps _ a1.defers (.panicking [{ v := u, recovered := false }]) w1
      obtain ⟨rs, e, nd, hrs'⟩ := hD1
      rw [e]
      refine leaves_marksP rs nd (fun r hr' => (hrs' r hr').2.2.1) fun w2 hp => ?_
      have s2 := st.poke hp fun r hr' => ⟨(hrs' r hr').1, (hrs' r hr').2.2.2⟩
      exact ⟨true, v, _, _, m1, Z1, u, q, rfl, s2, RV_mono (fun _ h => h) (fun r e => hp.2.1 r fun e' => (hrs' r e').2.2.2.2 e) _ (fun _ _ h => h) hu⟩
  | ex e =>
    cases hx
    cases e with
    | exit id => cases D1 <;> exact q.elim
    | norm =>
      cases D1 with
      | some l => exact q.elim
      | none => exact (fun ⟨vs, h1, h2⟩ => fin vs rfl h1 h2) q
    | ret =>
      cases D1 with
      | some l => exact q.elim
      | none => exact (fun ⟨vs, h1, h2⟩ => fin vs rfl h1 h2) q
end
end Go.Proofs.Bv
namespace Go.Proofs.Bv
open Go
inductive Rs where
  | calm
  | pan (v : AV)
  | done (v : AV)
def RMd (Z : Nat → Prop) (w : World) (m : AMap) (r : Rs) (u : FrameMode) : Prop :=
  match r with
  | .calm => u = .returning
  | .pan v => ∃ x, u = .panicking [{ v := x, recovered := false }] ∧ RV Z w v m x
  | .done v => ∃ x, u = .panicking [{ v := x, recovered := true }] ∧ RV Z w v m x
section
variable {C : Cfg} {m m' : AMap} {Z Z' : Nat → Prop} {h h' : Heap} {n n' nt w0 : Nat} {w w' : World}
theorem RMd.step {r : Rs} {u : FrameMode} (d : RMd Z w m r u) (hr : HR C m Z h w) (s : Step C m Z h n w m' Z' h' n' w') : RMd Z' w' m' r u := by
  cases r with
  | calm => exact d
  | pan v => exact let ⟨x, e, hx⟩ := d; ⟨x, e, s.rv hr hx⟩
  | done v => exact let ⟨x, e, hx⟩ := d; ⟨x, e, s.rv hr hx⟩
structure Sc (C : Cfg) (nt : Nat) (c : Code) (s : St) (r : Rs) (Q : Ex → St → Rs → Prop) : Prop where
  go : Snd C → codeOk nt c = true → ∀ (m : AMap) (Z : Nat → Prop) (a : Act) (w : World) (c0 : Frame) (rest : List Frame) (u : FrameMode) (R : Exit → Act → List Frame → World → Prop),
    HR C m Z s.h w → RT Z w nt s.T m a.tmps → a.defers = [] → (∀ b, s.n ≤ b → m b = none) → RMd Z w m r u →
    (∀ e s' r' a' w' m' Z' u', Q e s' r' → Step C m Z s.h s.n w m' Z' s'.h s'.n w' → RT Z' w' nt s'.T m' a'.tmps → a'.defers = [] → RMd Z' w' m' r' u' → R (exOf e) a' ({ c0 with mode := u' } :: rest) w') →
    c.wpSIn Fence.wide 0 C.P R a ({ c0 with mode := u } :: rest) w
def onNormS (K : St → Rs → Prop) (Q : Ex → St → Rs → Prop) : Ex → St → Rs → Prop
  | .norm, s, r => K s r
  | e, s, r => Q e s r
variable {s : St} {r : Rs} {Q : Ex → St → Rs → Prop} {a b : Code} {id j : Nat} {ops : Array Oper} {o : Oper} {l : List Oper} {T T' : Nat → AV} {v : AV}
theorem s_T (hw : Tc C nt a s (some []) (fun e s' D' => D' = some [] ∧ ∃ e0, e = .ex e0 ∧ Q e0 s' r)) : Sc C nt a s r Q := by
  refine ⟨fun hS hok m Z ac w c0 rest u R hr hT hD hf hu hR => wpSIn_of_wpIn rfl ?_⟩
  refine hw.go hS hok 0 m Z ac w _ hr hT hD (Nat.zero_le _) hf fun e s1 D1 x a1 w1 m1 Z1 q hx st hT1 hD1 => ?_
  obtain ⟨rfl, e0, rfl, q⟩ := q
  cases hx
  exact hR _ _ _ _ _ _ _ _ q st hT1 hD1 (hu.step hr st)
theorem s_seq (hw : Sc C nt a s r (onNormS (fun s r => Sc C nt b s r Q) Q)) : Sc C nt (.seq a b) s r Q := by
  refine ⟨fun hS hok m Z ac w c0 rest u R hr hT hD hf hu hR => wpSIn_seq ?_⟩
  simp only [codeOk, Bool.and_eq_true] at hok
  refine hw.go hS hok.1 m Z ac w c0 rest u _ hr hT hD hf hu fun e s1 r1 a1 w1 m1 Z1 u1 q st hT1 hD1 hu1 => ?_
  cases e with
  | norm => exact q.go hS hok.2 m1 Z1 a1 w1 c0 rest u1 R st.hr hT1 hD1 (st.freshA hf) hu1 fun e s2 r2 a2 w2 m2 Z2 u2 q2 st2 => hR e s2 r2 a2 w2 m2 Z2 u2 q2 (st.trans st2)
  | exit id => exact hR _ _ _ _ _ _ _ _ q st hT1 hD1 hu1
  | ret => exact hR _ _ _ _ _ _ _ _ q st hT1 hD1 hu1
theorem s_cond {c : Operand} (hc : Ev (val C s.T c) (KB fun t => Gb t (Sc C nt a s r Q) (Sc C nt b s r Q))) : Sc C nt (.cond c a b) s r Q := by
  obtain ⟨t, h1, h2⟩ := hc.go.go
  refine ⟨fun hS hok m Z ac w c0 rest u R hr hT hD hf hu hR => ?_⟩
  simp only [codeOk, Bool.and_eq_true] at hok
  have hx := val_sound hr hT c
  rw [h1] at hx
  simp only [RV] at hx
  refine wpSIn_cond hx.1 ?_
  cases t with
  | true => exact (h2.go.1 rfl).go hS hok.1 m Z ac w c0 rest u R hr hT hD hf hu hR
  | false => exact (h2.go.2 rfl).go hS hok.2 m Z ac w c0 rest u R hr hT hD hf hu hR
structure Sk (C : Cfg) (nt : Nat) (ops : Array Oper) (l : List Oper) (s : St) (r : Rs) (Q : St → Rs → Prop) : Prop where
  go : Snd C → ∀ i, ops.toList.drop i = l → dstsOk nt ops → ∀ (m : AMap) (Z : Nat → Prop) (a : Act) (w : World) (c0 : Frame) (rest : List Frame) (u : FrameMode) (R : Exit → Act → List Frame → World → Prop),
    HR C m Z s.h w → RT Z w nt s.T m a.tmps → a.defers = [] → (∀ b, s.n ≤ b → m b = none) → RMd Z w m r u →
    (∀ s' r' a' w' m' Z' u', Q s' r' → Step C m Z s.h s.n w m' Z' s'.h s'.n w' → RT Z' w' nt s'.T m' a'.tmps → a'.defers = [] → RMd Z' w' m' r' u' → R .normal a' ({ c0 with mode := u' } :: rest) w') →
    wpOpsSIn Fence.wide 0 C.P ops R (List.range' i (ops.size - i)) a ({ c0 with mode := u } :: rest) w
theorem s_region (hw : Sk C nt ops ops.toList s r (Q .norm)) : Sc C nt (.region id ops false) s r Q := by
  refine ⟨fun hS hok m Z ac w c0 rest u R hr hT hD hf hu hR => wpSIn_region ?_⟩
  have := hw.go hS 0 rfl (dstsOk_of hok) m Z ac w c0 rest u R hr hT hD hf hu fun s1 r1 a1 w1 m1 Z1 u1 q st => hR .norm s1 r1 a1 w1 m1 Z1 u1 q st
  simpa [List.range_eq_range'] using this
theorem s_nil {Q : St → Rs → Prop} (hq : Q s r) : Sk C nt ops [] s r Q := by
  refine ⟨fun _ i hl _ m Z a w c0 rest u R hr hT hD _ hu hR => ?_⟩
  have hi : ops.size ≤ i := by
    have := congrArg List.length hl
    simp at this
    omega
  have : ops.size - i = 0 := by omega
  rw [this]
  exact hR _ _ a w m Z u hq (Step.refl hr) hT hD hu
theorem exec_recover (ρ : Operand → Value) (dst : Option Tmp) (ty : TypeId) (pos : String) (after : Array Edge) (guard : Option (Nat × Bool)) (w : World) (P : Program) (ts : Array TypeId) :
    (execOp ρ ⟨dst, .call { callee := .builtin .recover, args := #[], argTypes := ts }, ty, pos, after, guard⟩).run P w = .ok .recover w := by
  simp only [execOp, resolve, Sem.run_bind, Sem.run_pure, Result.andThen_ok, invoke]
  rfl
theorem s_rec {Q : St → Rs → Prop} {h : Heap} {n : Nat} {ts : Array TypeId} (hg : o.guard = none) (hop : o.op = .call { callee := .builtin .recover, args := #[], argTypes := ts })
    (hp : putT nt T o.dst (match r with | .pan v => v | _ => .sc .nilIface) = some T') (hw : Sk C nt ops l ⟨T', h, n⟩ (match r with | .pan v => .done v | r => r) Q) : Sk C nt ops (o :: l) ⟨T, h, n⟩ r Q := by
  refine ⟨fun hS i hl hds m Z a w c0 rest u R hr hT hD hf hu hR => ?_⟩
  obtain ⟨hlt, ho, hl', hrange⟩ := drop_cons hl
  rw [hrange]
  simp only [wpOpsSIn, ho]
  refine ⟨fun _ _ => trivial, ?_⟩
  have hwant : Region.wanted o (yielded ops a.tmps) = true := by simp [Region.wanted, hg]
  rw [if_pos hwant]
  obtain ⟨dst, op, ty, pos, after, guard⟩ := o
  simp only at hop
  subst hop
  rw [exec_recover]
  simp only
  cases r with
  | calm =>
    have hu' : u = .returning := hu
    subst hu'
    simp only [recoverD]
    have hT1 := RT.put (a := a) (u := .nilIface) hT (v := .sc .nilIface) (by simp [RV, plain]) hp
    exact hw.go hS (i + 1) hl' hds m Z _ w c0 rest .returning R hr hT1 (by rw [put_defers]; exact hD) hf rfl hR
  | pan v =>
    obtain ⟨x, rfl, hx⟩ := hu
    simp only [recoverD]
    have hT1 := RT.put (a := a) hT hx hp
    exact hw.go hS (i + 1) hl' hds m Z _ w c0 rest _ R hr hT1 (by rw [put_defers]; exact hD) hf ⟨x, rfl, hx⟩ hR
  | done v =>
    obtain ⟨x, rfl, hx⟩ := hu
    simp only [recoverD]
    have hT1 := RT.put (a := a) (u := .nilIface) hT (v := .sc .nilIface) (by simp [RV, plain]) hp
    exact hw.go hS (i + 1) hl' hds m Z _ w c0 rest _ R hr hT1 (by rw [put_defers]; exact hD) hf ⟨x, rfl, hx⟩ hR
theorem s_vop {Q : St → Rs → Prop} {h : Heap} {n : Nat} (hg : o.guard = none) (hv : vop C.P (val C T) h n o.op = some (v, h', n')) (hp : putT nt T o.dst v = some T') (hw : Sk C nt ops l ⟨T', h', n'⟩ r Q) : Sk C nt ops (o :: l) ⟨T, h, n⟩ r Q := by
  refine ⟨fun hS i hl hds m Z a w c0 rest u R hr hT hD hf hu hR => ?_⟩
  obtain ⟨hlt, ho, hl', hrange⟩ := drop_cons hl
  rw [hrange]
  simp only [wpOpsSIn, ho]
  refine ⟨fun _ _ => trivial, ?_⟩
  have hwant : Region.wanted o (yielded ops a.tmps) = true := by simp [Region.wanted, hg]
  rw [if_pos hwant]
  obtain ⟨nx, w', m', Z', x, h1, h2, h3, h4⟩ := vop_sound hr (fun b hb _ => hf b hb) (val_sound hr hT) hv
  have hgo : ∀ x', RV Z' w' v m' x' → wpOpsSIn Fence.wide 0 C.P ops R (List.range' (i + 1) (ops.size - (i + 1))) (a.put o.dst x') ({ c0 with mode := u } :: rest) w' := fun x' hx =>
    hw.go hS (i + 1) hl' hds m' Z' _ w' c0 rest u R h3.hr (RT.put (h3.rt hr hT) hx hp) (by rw [put_defers]; exact hD) (h3.freshA hf) (hu.step hr h3) fun s2 r2 a2 w2 m2 Z2 u2 q2 st2 => hR s2 r2 a2 w2 m2 Z2 u2 q2 (h3.trans st2)
  rw [h1]
  rcases h2 with rfl | ⟨rfl, rfl⟩
  · exact hgo _ h4
  · exact hgo _ h4
def zeroV (P : Program) (t : TypeId) : Option AV := ((P.info? t).bind (·.zero)).map ofV
theorem zeroV_sound {P : Program} {t : TypeId} {z : AV} (hz : zeroV P t = some z) : ∃ u, (zeroValue t).run P w = .ok u w ∧ RV Z w z m u := by
  unfold zeroV at hz
  simp only [Option.map_eq_some_iff] at hz
  obtain ⟨u, hu, rfl⟩ := hz
  refine ⟨u, ?_, RV_ofV u⟩
  simp only [Option.bind_eq_some_iff] at hu
  obtain ⟨i, h1, h2⟩ := hu
  simp [zeroValue, typeInfo, program, Sem.run, h1, h2]
def tasA (asd : TypeId) (d : Option TypeDesc) (z : Option AV) (x : AV) : Option AV :=
  if notIfc d then
    match x, z with
    | .ifc t v, some z => if t = asd then some (.tup [v, .sc (.bool true)]) else some (.tup [z, .sc (.bool false)])
    | .sc .nilIface, some z => some (.tup [z, .sc (.bool false)])
    | _, _ => none
  else none
theorem tas_sound {P : Program} {ρ : Operand → Value} {x : Operand} {xt asd : TypeId} {dst : Option Tmp} {ty : TypeId} {pos : String} {after : Array Edge} {guard : Option (Nat × Bool)} {a v : AV} (hx : RV Z w a m (ρ x)) (hv : tasA asd (P.underlying asd) (zeroV P asd) a = some v) :
    ∃ u, (execOp ρ ⟨dst, .typeAssert x xt asd true, ty, pos, after, guard⟩).run P w = .ok (.value u) w ∧ RV Z w v m u := by
  unfold tasA at hv
  split at hv <;> try (cases hv; done)
  rename_i hn
  cases hd : P.underlying asd with
  | none => rw [hd] at hn; cases hn
  | some d =>
    rw [hd] at hn
    split at hv
    · rename_i t b z hz
      obtain ⟨uz, hz1, hz2⟩ := zeroV_sound (w := w) (Z := Z) (m := m) hz
      simp only [RV] at hx
      obtain ⟨ub, e, hb⟩ := hx
      split at hv
      · rename_i ht
        subst ht
        injection hv with hv
        subst hv
        refine ⟨.tuple #[ub, .bool true], ?_, ?_⟩
        · simp only [execOp, Instr.typeAssert, Sem.run_bind, run_under hd, Result.andThen_ok, e]
          cases d <;> first | (cases hn; done) | simp [Sem.run]
        · simp only [RV, RVl]
          exact ⟨[ub, .bool true], rfl, ub, _, rfl, hb, _, _, rfl, ⟨rfl, rfl⟩, rfl⟩
      · rename_i ht
        injection hv with hv
        subst hv
        refine ⟨.tuple #[uz, .bool false], ?_, ?_⟩
        · simp only [execOp, Instr.typeAssert, Sem.run_bind, run_under hd, Result.andThen_ok, e]
          cases d <;> first | (cases hn; done) | simp [Sem.run_bind, hz1, ht, Result.andThen_ok, Sem.run_pure]
        · simp only [RV, RVl]
          exact ⟨[uz, .bool false], rfl, uz, _, rfl, hz2, _, _, rfl, ⟨rfl, rfl⟩, rfl⟩
    · rename_i z hz
      obtain ⟨uz, hz1, hz2⟩ := zeroV_sound (w := w) (Z := Z) (m := m) hz
      simp only [RV] at hx
      injection hv with hv
      subst hv
      refine ⟨.tuple #[uz, .bool false], ?_, ?_⟩
      · simp only [execOp, Instr.typeAssert, Sem.run_bind, run_under hd, Result.andThen_ok, hx.1]
        cases d <;> first | (cases hn; done) | simp [Sem.run_bind, hz1, Result.andThen_ok, Sem.run_pure]
      · simp only [RV, RVl]
        exact ⟨[uz, .bool false], rfl, uz, _, rfl, hz2, _, _, rfl, ⟨rfl, rfl⟩, rfl⟩
    · cases hv
theorem so_tas {D : Ds} {K : AV → Heap → Nat → Ds → Prop} {QP : AV → Heap → Nat → Prop} {h : Heap} {n : Nat} {x : Operand} {xt asd : TypeId} {v : AV} (hop : o.op = .typeAssert x xt asd true) (hv : tasA asd (C.P.underlying asd) (zeroV C.P asd) (val C T x) = some v) (hk : K v h n D) : So C nt o T h n D K QP := by
  refine ⟨fun hS w0 m Z a w next R hr hT hD hw0 hf hK _ => ⟨fun _ _ => trivial, ?_⟩⟩
  obtain ⟨dst, op, ty, pos, after, guard⟩ := o
  simp only at hop
  subst hop
  obtain ⟨u, h1, h2⟩ := tas_sound (ρ := a.eval) (xt := xt) (dst := dst) (ty := ty) (pos := pos) (after := after) (guard := guard) (val_sound hr hT x) hv
  have : (Oper.semAt Fence.wide.round a.eval ⟨dst, .typeAssert x xt asd true, ty, pos, after, guard⟩).run C.P w = .ok (.value u) w := h1
  rw [this, Oper.uponIn_value]
  exact hK _ _ _ _ _ a _ _ _ hk (Step.refl hr) h2 rfl hD
theorem s_tas {Q : St → Rs → Prop} {h : Heap} {n : Nat} {x : Operand} {xt asd : TypeId} {v : AV} (hg : o.guard = none) (hop : o.op = .typeAssert x xt asd true) (hv : tasA asd (C.P.underlying asd) (zeroV C.P asd) (val C T x) = some v) (hp : putT nt T o.dst v = some T') (hw : Sk C nt ops l ⟨T', h, n⟩ r Q) : Sk C nt ops (o :: l) ⟨T, h, n⟩ r Q := by
  refine ⟨fun hS i hl hds m Z a w c0 rest u R hr hT hD hf hu hR => ?_⟩
  obtain ⟨hlt, ho, hl', hrange⟩ := drop_cons hl
  rw [hrange]
  simp only [wpOpsSIn, ho]
  refine ⟨fun _ _ => trivial, ?_⟩
  have hwant : Region.wanted o (yielded ops a.tmps) = true := by simp [Region.wanted, hg]
  rw [if_pos hwant]
  obtain ⟨dst, op, ty, pos, after, guard⟩ := o
  simp only at hop
  subst hop
  obtain ⟨y, h1, h2⟩ := tas_sound (ρ := a.eval) (xt := xt) (dst := dst) (ty := ty) (pos := pos) (after := after) (guard := guard) (val_sound hr hT x) hv
  rw [h1]
  exact hw.go hS (i + 1) hl' hds m Z _ w c0 rest u R hr (RT.put hT h2 hp) (by rw [put_defers]; exact hD) hf hu hR
theorem so_def {K : AV → Heap → Nat → Ds → Prop} {QP : AV → Heap → Nat → Prop} {h : Heap} {n : Nat} {f : Operand} {ts : Array TypeId} {g : FuncId} {caps L : List AV} (hop : o.op = .defer { callee := .value f, args := #[], argTypes := ts }) (hv : val C T f = .fn (.func g) caps)
    (hk : K .junk h n (some (.fn (.func g) caps :: L))) : So C nt o T h n (some L) K QP := by
  refine ⟨fun hS w0 m Z a w next R hr hT hD hw0 hf hK _ => ⟨fun _ _ => trivial, ?_⟩⟩
  obtain ⟨dst, op, ty, pos, after, guard⟩ := o
  simp only at hop
  subst hop
  have hx := val_sound hr hT f
  rw [hv] at hx
  simp only [RV] at hx
  obtain ⟨us, hx, hus⟩ := hx
  have : (Oper.semAt Fence.wide.round a.eval ⟨dst, .defer { callee := .value f, args := #[], argTypes := ts }, ty, pos, after, guard⟩).run C.P w = .ok (.defer { target := .fn (.func g) us.toArray, args := #[] }) w := by
    show (execOp a.eval ⟨dst, .defer { callee := .value f, args := #[], argTypes := ts }, ty, pos, after, guard⟩).run C.P w = _
    simp only [execOp, resolve, hx, Deferred.ofValue, Sem.run_bind, Sem.run_pure, Result.andThen_ok]
    simp
  rw [this, Oper.uponIn_defer]
  exact hK _ _ _ _ _ { a with defers := { target := .fn (.func g) us.toArray, args := #[] } :: a.defers } _ _ _ hk (Step.refl hr) (by simp [RV]) rfl ⟨g, caps, us, _, rfl, rfl, hus, hD⟩
structure Pd (C : Cfg) (f : FuncId) (args : List AV) (h : Heap) (n : Nat) (r : Rs) (Q : Heap → Nat → Rs → Prop) : Prop where
  go : Snd C → ∀ (m : AMap) (Z : Nat → Prop) (w : World) (us : List Value) (u : FrameMode), HR C m Z h w → RVl Z w args m us → (∀ b, n ≤ b → m b = none) → RMd Z w m r u →
    (callFunc f us.toArray).run C.P w = .ok (.enter f us.toArray) w ∧
    CallsDIn Fence.wide 0 C.P f us.toArray u w fun e u' w' => ∃ v h' n' r' m' Z', Q h' n' r' ∧ e = .returned v ∧ Step C m Z h n w m' Z' h' n' w' ∧ RMd Z' w' m' r' u'
def SWr (C : Cfg) (rs : Array ResultVar) (Q : Heap → Nat → Rs → Prop) : Ex → St → Rs → Prop
  | .norm, s, r | .ret, s, r => (∃ vs, retsA C s.T s.h rs.toList = some vs) ∧ Q s.h s.n r
  | _, _, _ => False
theorem pd_enter {f : FuncId} {fn : Func} {c : Code} {args : List AV} {h : Heap} {n : Nat} {Q : Heap → Nat → Rs → Prop} (hf : C.P.funcs[f]? = some fn) (hc : fn.body = some c) (hok : codeOk fn.ntmps c = true) (ha : Nat.ble args.length fn.ntmps = true)
    (hw : Sc C fn.ntmps c ⟨argsT args, h, n⟩ r (SWr C fn.results Q)) : Pd C f args h n r Q := by
  refine ⟨fun hS m Z w us u hr hus hfr hu => ?_⟩
  have hlen := Nat.le_of_ble_eq_true ha
  have hnf := hS.nn f fn hf
  simp only [beq_eq_false_iff_ne, ne_eq] at hnf
  refine ⟨by simp [callFunc, hf, hnf, hc], ?_⟩
  refine callsDIn_of_wpSIn hf hc trivial fun c0 cs hc0 => ?_
  have hT := RT_args (nt := fn.ntmps) hus hlen
  have e0 : c0 = { c0 with mode := u } := by subst hc0; rfl
  rw [show (c0 :: cs) = ({ c0 with mode := u } :: cs) by rw [← e0]]
  refine hw.go hS hok m Z _ w c0 cs u _ hr hT rfl hfr hu fun e s1 r1 a1 w1 m1 Z1 u1 q st hT1 hD1 hu1 => ?_
  have fin : ((∃ vs, retsA C s1.T s1.h fn.results.toList = some vs) ∧ Q s1.h s1.n r1) → bodyPostS C.P fn c0 cs (fun e u' w' => ∃ v h' n' r' m' Z', Q h' n' r' ∧ e = .returned v ∧ Step C m Z h n w m' Z' h' n' w' ∧ RMd Z' w' m' r' u') .normal a1 ({ c0 with mode := u1 } :: cs) w1 := by
    rintro ⟨⟨vs, hvs⟩, q⟩
    obtain ⟨x, h1, h2⟩ := results_sound st.hr hT1 fn hvs
    exact ⟨hD1, u1, rfl, x, h1, x, _, _, r1, m1, Z1, q, rfl, st, hu1⟩
  cases e with
  | norm => exact fin q
  | ret => exact fin q
  | exit id => exact q.elim
def DWr (C : Cfg) (rs : Array ResultVar) (Q : Bool → AV → Heap → Nat → Prop) : Px → St → Ds → Prop
  | .ex .norm, s, some [.fn (.func g) caps] | .ex .ret, s, some [.fn (.func g) caps] =>
    Pd C g caps s.h s.n .calm fun h' n' r' => r' = .calm ∧ ∃ vs, retsA C s.T h' rs.toList = some vs ∧ Q false (one1 vs) h' n'
  | .pan v, s, some [.fn (.func g) caps] =>
    Pd C g caps s.h s.n (.pan v) fun h' n' r' => match r' with
      | .done _ => ∃ vs, retsA C s.T h' rs.toList = some vs ∧ Q false (one1 vs) h' n'
      | .pan v' => Q true v' h' n'
      | .calm => False
  | .ex .norm, s, some [] | .ex .ret, s, some [] => ∃ vs, retsA C s.T s.h rs.toList = some vs ∧ Q false (one1 vs) s.h s.n
  | .pan v, s, some [] => Q true v s.h s.n
  | _, _, _ => False
theorem invoke_fn {P : Program} {g : FuncId} {us : List Value} (hg : (callFunc g us.toArray).run P w = .ok (.enter g us.toArray) w) : (invoke (.fn (.func g) us.toArray) #[]).run P w = .ok (.enter g us.toArray) w := by
  simp only [invoke]
  simpa using hg
theorem df_enter {f : FuncId} {fn : Func} {c : Code} {args : List AV} {h : Heap} {n : Nat} {Q : Bool → AV → Heap → Nat → Prop} (hf : C.P.funcs[f]? = some fn) (hc : fn.body = some c) (hok : codeOk fn.ntmps c = true) (ha : Nat.ble args.length fn.ntmps = true)
    (hw : Tc C fn.ntmps c ⟨argsT args, h, n⟩ (some []) (DWr C fn.results Q)) : Pf C f args h n Q := by
  refine ⟨fun hS m Z w us hr hus hfr => ?_⟩
  have hlen := Nat.le_of_ble_eq_true ha
  have hnf := hS.nn f fn hf
  simp only [beq_eq_false_iff_ne, ne_eq] at hnf
  refine ⟨by simp [callFunc, hf, hnf, hc], ?_⟩
  refine callsIn_of_wp_defers (F := Fence.wide) hf hc trivial ?_ rfl
  have hT := RT_args (nt := fn.ntmps) hus hlen
  refine hw.go hS hok 0 m Z _ w _ hr hT rfl (Nat.zero_le _) hfr fun e s1 D1 x a1 w1 m1 Z1 q hx st hT1 hD1 => ?_
  let RR : Ending → World → Prop := fun e w' => ∃ p v h' n' m' Z' u, Q p v h' n' ∧ e = (if p then .panicked [{ v := u, recovered := false }] else .returned u) ∧ Step C m Z h n w m' Z' h' n' w' ∧ RV Z' w' v m' u
  have fin : ∀ {h' n' m2 Z2 w2 vs}, Step C m Z h n w m2 Z2 h' n' w2 → RT Z2 w2 fn.ntmps s1.T m2 a1.tmps → retsA C s1.T h' fn.results.toList = some vs → Q false (one1 vs) h' n' → LeavesIn Fence.wide 0 C.P fn a1.tmps RR [] .returning w2 := by
    intro h' n' m2 Z2 w2 vs st2 hT2 hrs hq
    obtain ⟨y, h1, h2⟩ := results_sound st2.hr hT2 fn hrs
    exact ⟨y, h1, false, _, _, _, m2, Z2, y, hq, rfl, st2, h2⟩
  have one : ∀ {g caps r u} {Qd : Heap → Nat → Rs → Prop}, D1 = some [.fn (.func g) caps] → u ≠ .run → RMd Z1 w1 m1 r u → Pd C g caps s1.h s1.n r Qd →
      (∀ h' n' r' m2 Z2 w2 u2, Qd h' n' r' → Step C m Z h n w m2 Z2 h' n' w2 → RT Z2 w2 fn.ntmps s1.T m2 a1.tmps → RMd Z2 w2 m2 r' u2 → LeavesIn Fence.wide 0 C.P fn a1.tmps RR [] (settle u2) w2) → LeavesIn Fence.wide 0 C.P fn a1.tmps RR a1.defers u w1 := by
    rintro g caps r u Qd rfl hrun hu hpd hk
    obtain ⟨g', caps', us', r', e1, e2, hus', hr'⟩ := hD1
    injection e1 with e1 e3
    injection e1 with e1
    subst e1; subst e3
    have hr'' : r' = [] := hr'
    subst hr''
    rw [e2]
    obtain ⟨h1, h2⟩ := hpd.go hS m1 Z1 w1 us' u st.hr hus' (st.freshA hfr) hu
    refine leavesIn_cons hrun (fun h => by simp [Fence.wide] at h) (invoke_fn h1) (fun _ _ => trivial) (h2.mono ?_)
    rintro e u2 w2 ⟨v, h', n', r2, m2, Z2, q2, rfl, st2, hu2⟩
    exact hk h' n' r2 m2 Z2 w2 u2 q2 (st.trans st2) (st2.rt st.hr hT1) hu2
  have calm : ∀ {g caps}, D1 = some [.fn (.func g) caps] → (Pd C g caps s1.h s1.n .calm fun h' n' r' => r' = .calm ∧ ∃ vs, retsA C s1.T h' fn.results.toList = some vs ∧ Q false (one1 vs) h' n') → LeavesIn Fence.wide 0 C.P fn a1.tmps RR a1.defers .returning w1 := by
    intro g caps e hpd
    refine one e (by simp) (r := .calm) rfl hpd fun h' n' r' m2 Z2 w2 u2 q2 st2 hT2 hu2 => ?_
    obtain ⟨rfl, vs, h1, h2⟩ := q2
    have hu2' : u2 = .returning := hu2
    subst hu2'
    exact fin st2 hT2 h1 h2
  have calm0 : D1 = some [] → (∃ vs, retsA C s1.T s1.h fn.results.toList = some vs ∧ Q false (one1 vs) s1.h s1.n) → LeavesIn Fence.wide 0 C.P fn a1.tmps RR a1.defers .returning w1 := by
    rintro rfl ⟨vs, h1, h2⟩
    have : a1.defers = [] := hD1
    rw [this]
    exact fin st hT1 h1 h2
  cases e with
  | pan v =>
    obtain ⟨y, rfl, hy⟩ := hx
    show LeavesIn Fence.wide 0 C.P fn a1.tmps RR a1.defers (.panicking [{ v := y, recovered := false }]) w1
    cases D1 with
    | none => exact q.elim
    | some L =>
      match h0 : L, q with
      | [], q =>
        rw [h0] at hD1
        have : a1.defers = [] := hD1
        rw [this]
        exact ⟨true, v, _, _, m1, Z1, y, q, rfl, st, hy⟩
      | [.fn (.func g) caps], q =>
        refine one (congrArg some h0) (by simp) (r := .pan v) ⟨y, rfl, hy⟩ q fun h' n' r' m2 Z2 w2 u2 q2 st2 hT2 hu2 => ?_
        cases r' with
        | calm => exact q2.elim
        | done v' =>
          obtain ⟨vs, h1, h2⟩ := q2
          obtain ⟨z, rfl, hz⟩ := hu2
          exact fin st2 hT2 h1 h2
        | pan v' =>
          obtain ⟨z, rfl, hz⟩ := hu2
          exact ⟨true, v', _, _, m2, Z2, z, q2, rfl, st2, hz⟩
  | ex e =>
    cases hx
    cases e with
    | exit id => cases D1 <;> exact q.elim
    | norm =>
      cases D1 with
      | none => exact q.elim
      | some L =>
        match h0 : L, q with
        | [], q => exact calm0 (congrArg some h0) q
        | [.fn (.func g) caps], q => exact calm (congrArg some h0) q
    | ret =>
      cases D1 with
      | none => exact q.elim
      | some L =>
        match h0 : L, q with
        | [], q => exact calm0 (congrArg some h0) q
        | [.fn (.func g) caps], q => exact calm (congrArg some h0) q
end
end Go.Proofs.Bv
namespace Go.Proofs.Bv
open Go
section
variable {C : Cfg} {nt : Nat} {s : St} {D : Ds} {Q : Px → St → Ds → Prop} {h h' : Heap} {n n' : Nat} {T T' : Nat → AV} {ops : Array Oper} {o : Oper} {l : List Oper} {v : AV} {a b : Code} {id j : Nat} {K : St → Ds → Prop}
theorem t_onN (hw : K s D) : onNormP K Q (.ex .norm) s D := hw
theorem t_onE (hw : Q (.ex (.exit j)) s D) : onNormP K Q (.ex (.exit j)) s D := hw
theorem t_onR (hw : Q (.ex .ret) s D) : onNormP K Q (.ex .ret) s D := hw
theorem t_onP (hw : Q (.pan v) s D) : onNormP K Q (.pan v) s D := hw
theorem t_xN (hw : Q (.ex .norm) s D) : onExitP id Q (.ex .norm) s D := hw
theorem t_xR (hw : Q (.ex .ret) s D) : onExitP id Q (.ex .ret) s D := hw
theorem t_xP (hw : Q (.pan v) s D) : onExitP id Q (.pan v) s D := hw
theorem t_xS (hw : Q (.ex .norm) s D) : onExitP id Q (.ex (.exit id)) s D := by
  show Q (.ex (if id = id then .norm else .exit id)) s D
  rw [if_pos rfl]; exact hw
theorem t_xO (hj : j ≠ id) (hw : Q (.ex (.exit j)) s D) : onExitP id Q (.ex (.exit j)) s D := by
  show Q (.ex (if j = id then .norm else .exit j)) s D
  rw [if_neg hj]; exact hw
theorem t_wr {rs : Array ResultVar} {Qf : Bool → AV → Heap → Nat → Prop} (hv : Ev (retsA C s.T s.h rs.toList) (K1 fun vs => Qf false (one1 vs) s.h s.n)) : TWr C rs Qf (.ex .ret) s none := by
  obtain ⟨vs, h1, h2⟩ := hv.go.go
  exact ⟨vs, h1, h2⟩
theorem t_wn {rs : Array ResultVar} {Qf : Bool → AV → Heap → Nat → Prop} (hv : Ev (retsA C s.T s.h rs.toList) (K1 fun vs => Qf false (one1 vs) s.h s.n)) : TWr C rs Qf (.ex .norm) s none := by
  obtain ⟨vs, h1, h2⟩ := hv.go.go
  exact ⟨vs, h1, h2⟩
theorem t_wp {rs : Array ResultVar} {Qf : Bool → AV → Heap → Nat → Prop} (hq : Qf true v s.h s.n) : TWr C rs Qf (.pan v) s none := hq
structure Th (C : Cfg) (nt : Nat) (ops : Array Oper) (o : Oper) (l : List Oper) (T : Nat → AV) (h : Heap) (n : Nat) (D : Ds) (Q : Px → St → Ds → Prop) : Prop where
  go : goes ops T o = some true → To C nt ops (o :: l) ⟨T, h, n⟩ D Q
structure Tx (C : Cfg) (nt : Nat) (T : Nat → AV) (dst : Option Tmp) (ops : Array Oper) (l : List Oper) (D : Ds) (Q : Px → St → Ds → Prop) (v : AV) (h' : Heap) (n' : Nat) : Prop where
  go : ∃ T', putT nt T dst v = some T' ∧ To C nt ops l ⟨T', h', n'⟩ D Q
theorem t_p {dst : Option Tmp} (hp : putT nt T dst v = some T') (hw : To C nt ops l ⟨T', h', n'⟩ D Q) : Tx C nt T dst ops l D Q v h' n' := ⟨⟨T', hp, hw⟩⟩
theorem t_on (hg : o.guard = none) (hw : Th C nt ops o l T h n D Q) : To C nt ops (o :: l) ⟨T, h, n⟩ D Q := hw.go (by simp only [goes, hg])
structure Tg (C : Cfg) (nt : Nat) (ops : Array Oper) (o : Oper) (l : List Oper) (T : Nat → AV) (h : Heap) (n : Nat) (D : Ds) (Q : Px → St → Ds → Prop) (b : Bool) : Prop where
  go : goes ops T o = some b → To C nt ops (o :: l) ⟨T, h, n⟩ D Q
theorem t_gd {q : Nat × Bool} (_hq : o.guard = some q) (hg : Ev (goes ops T o) (K1 (Tg C nt ops o l T h n D Q))) : To C nt ops (o :: l) ⟨T, h, n⟩ D Q := by
  obtain ⟨b, h1, h2⟩ := hg.go.go
  exact h2.go h1
theorem t_gt (hw : Th C nt ops o l T h n D Q) : Tg C nt ops o l T h n D Q true := ⟨hw.go⟩
theorem t_gf (hp : putT nt T o.dst (.tup []) = some T') (hw : To C nt ops l ⟨T', h, n⟩ D Q) : Tg C nt ops o l T h n D Q false := ⟨fun hg => to_off hg hp hw⟩
theorem t_gs {b : Bool} (h1 : b = true → To C nt ops (o :: l) ⟨T, h, n⟩ D Q) (h2 : b = false → To C nt ops (o :: l) ⟨T, h, n⟩ D Q) : Tg C nt ops o l T h n D Q b := by
  refine ⟨fun _ => ?_⟩
  cases b with
  | true => exact h1 rfl
  | false => exact h2 rfl
theorem t_op (hc : isCall o.op = false) (hv : Ev (vop C.P (val C T) h n o.op) (K3 (Tx C nt T o.dst ops l D Q))) : Th C nt ops o l T h n D Q := by
  obtain ⟨v, h', n', h1, h2⟩ := hv.go.go
  exact ⟨fun hg => to_so hg (so_vop h1 h2.go)⟩
theorem t_pan {x : Operand} (hop : o.op = .panic x) (hv : Ev (asIfc (val C T x)) (K2 fun t a => Q (.pan (.ifc t a)) ⟨T, h, n⟩ D)) : Th C nt ops o l T h n D Q := by
  obtain ⟨t, a, h1, h2⟩ := hv.go.go
  exact ⟨fun hg => to_so hg (so_panic hop h1 h2)⟩
theorem t_mki {x : Operand} {t : TypeId} (hop : o.op = .makeInterface t x) (hv : Ev (notIfc (C.P.underlying t)) (KT (Ev (val C T x) (K0 fun v => Tx C nt T o.dst ops l D Q (.ifc t v) h n)))) : Th C nt ops o l T h n D Q := by
  have h1 := hv.go.go
  exact ⟨fun hg => to_so hg (so_mki hop h1.1 h1.2.go.go.go)⟩
theorem t_tas {x : Operand} {xt asd : TypeId} (hop : o.op = .typeAssert x xt asd true) (hv : Ev (tasA asd (C.P.underlying asd) (zeroV C.P asd) (val C T x)) (K1 fun v => Tx C nt T o.dst ops l D Q v h n)) : Th C nt ops o l T h n D Q := by
  obtain ⟨v, h1, h2⟩ := hv.go.go
  exact ⟨fun hg => to_so hg (so_tas hop h1 h2.go)⟩
def asFn : AV → Option (FuncId × List AV)
  | .fn (.func g) caps => some (g, caps)
  | _ => none
theorem t_def {f : Operand} {ts : Array TypeId} {L : List AV} (hop : o.op = .defer { callee := .value f, args := #[], argTypes := ts }) (hv : Ev (asFn (val C T f)) (K2 fun g caps => Tx C nt T o.dst ops l (some (.fn (.func g) caps :: L)) Q .junk h n)) : Th C nt ops o l T h n (some L) Q := by
  obtain ⟨g, caps, h1, h2⟩ := hv.go.go
  have : val C T f = .fn (.func g) caps := by
    unfold asFn at h1
    split at h1 <;> try (cases h1; done)
    rename_i e
    injection h1 with h1
    injection h1 with h1 h3
    subst h1; subst h3
    exact e
  exact ⟨fun hg => to_so hg (so_def hop this h2.go)⟩
structure Tn (C : Cfg) (nt : Nat) (n : Nat) (T : Nat → AV) (dst : Option Tmp) (ops : Array Oper) (l : List Oper) (D : Ds) (Q : Px → St → Ds → Prop) (v : AV) (h' : Heap) (n' : Nat) : Prop where
  le : n ≤ n'
  go : ∃ T', putT nt T dst v = some T' ∧ To C nt ops l ⟨T', h', n'⟩ D Q
theorem t_n0 {dst : Option Tmp} (hp : putT nt T dst v = some T') (hw : To C nt ops l ⟨T', h', n⟩ D Q) : Tn C nt n T dst ops l D Q v h' n := ⟨Nat.le_refl _, T', hp, hw⟩
theorem t_n1 {dst : Option Tmp} (hn : n ≤ n') (hp : putT nt T dst v = some T') (hw : To C nt ops l ⟨T', h', n'⟩ D Q) : Tn C nt n T dst ops l D Q v h' n' := ⟨hn, T', hp, hw⟩
structure Tk (C : Cfg) (nt : Nat) (ops : Array Oper) (o : Oper) (l : List Oper) (T : Nat → AV) (h : Heap) (n : Nat) (D : Ds) (Q : Px → St → Ds → Prop) (g : FuncId) (all : List AV) : Prop where
  go : ∀ (f : Operand) (as : Array Operand) (ts : Array TypeId), o.op = .call { callee := .value f, args := as, argTypes := ts } → cArgs C T f as = some (g, all) → goes ops T o = some true → To C nt ops (o :: l) ⟨T, h, n⟩ D Q
theorem t_cl {f : Operand} {as : Array Operand} {ts : Array TypeId} (hop : o.op = .call { callee := .value f, args := as, argTypes := ts }) (hw : Ey (cArgs C T f as) (K2 (Tk C nt ops o l T h n D Q))) : Th C nt ops o l T h n D Q := by
  obtain ⟨g, all, h1, h2⟩ := hw.go.go
  exact ⟨fun hg => h2.go f as ts hop h1 hg⟩
variable {g : FuncId} {all : List AV}
theorem t_k (hw : Gk C false h n (fun v _ h' n' => Tn C nt n T o.dst ops l D Q v h' n') g all) : Tk C nt ops o l T h n D Q g all := by
  obtain ⟨k, v, tch, h', n', h1, h2⟩ := hw.go
  simp only [Bool.false_eq_true, if_false] at h1
  refine ⟨fun f as ts hop ha hg => ?_⟩
  obtain ⟨caps, hf, rfl⟩ := cArgs_iff ha
  refine to_so hg (so_cl (k := k) hop ?_ h2.le h2.go)
  rw [hf]
  exact h1
theorem t_pf {Qf : Bool → AV → Heap → Nat → Prop} (hp : Pf C g all h n Qf) (hk : ∀ v h' n', Qf false v h' n' → Tx C nt T o.dst ops l D Q v h' n') (hq : ∀ v h' n', Qf true v h' n' → Q (.pan v) ⟨T, h', n'⟩ D) : Tk C nt ops o l T h n D Q g all :=
  ⟨fun _ _ _ hop ha hg => to_so hg (so_pf hop ha hp (fun v h' n' q => (hk v h' n' q).go) hq)⟩
theorem Pf.mono {f : FuncId} {args : List AV} {Q Q' : Bool → AV → Heap → Nat → Prop} (hp : Pf C f args h n Q) (hq : ∀ p v h' n', Q p v h' n' → Q' p v h' n') : Pf C f args h n Q' := by
  refine ⟨fun hS m Z w us hr hus hf => ?_⟩
  obtain ⟨h1, h2⟩ := hp.go hS m Z w us hr hus hf
  refine ⟨h1, h2.mono ?_⟩
  rintro e w' ⟨p, v, h', n', m', Z', u, q, rest⟩
  exact ⟨p, v, h', n', m', Z', u, hq _ _ _ _ q, rest⟩
theorem t_Gs {Q' : Ex → St → Prop} (hw : Gc C nt false a s Q') (hq : ∀ e s', Q' e s' → Q (.ex e) s' none) : Tc C nt a s none Q :=
  (t_G hw).mono fun e s' D' ⟨hD, e0, he, q⟩ => by subst hD; subst he; exact hq _ _ q
theorem t_G1 (hw : Gc C nt false a s fun e s' => Q (.ex e) s' none) : Tc C nt a s none Q := t_Gs hw fun _ _ q => q
def PfR (C : Cfg) (f : FuncId) (args : List AV) (h : Heap) (n : Nat) (r : AV) (h1 : Heap) (n1 : Nat) : Prop := Pf C f args h n fun p v h' n' => p = false ∧ v = r ∧ h' = h1 ∧ n' = n1
def PfP (C : Cfg) (f : FuncId) (args : List AV) (h : Heap) (n : Nat) (r : AV) (h1 : Heap) (n1 : Nat) : Prop := Pf C f args h n fun p v h' n' => p = true ∧ v = r ∧ h' = h1 ∧ n' = n1
variable {r : AV} {h1 : Heap} {n1 : Nat}
theorem t_kR (hp : PfR C g all h n r h1 n1) (hput : putT nt T o.dst r = some T') (hw : To C nt ops l ⟨T', h1, n1⟩ D Q) : Tk C nt ops o l T h n D Q g all :=
  t_pf hp (fun v h' n' ⟨_, e1, e2, e3⟩ => by subst e1; subst e2; subst e3; exact ⟨T', hput, hw⟩) (fun v h' n' ⟨e, _⟩ => by cases e)
theorem t_kP (hp : PfP C g all h n r h1 n1) (hw : Q (.pan r) ⟨T, h1, n1⟩ D) : Tk C nt ops o l T h n D Q g all :=
  t_pf hp (fun v h' n' ⟨e, _⟩ => by cases e) (fun v h' n' ⟨_, e1, e2, e3⟩ => by subst e1; subst e2; subst e3; exact hw)
structure Qr (r : AV) (h1 : Heap) (n1 : Nat) (p0 : Bool) (p : Bool) (v : AV) (h' : Heap) (n' : Nat) : Prop where
  go : p = p0 ∧ v = r ∧ h' = h1 ∧ n' = n1
end
end Go.Proofs.Bv
namespace Go.Proofs.Bv
open Go
def guardIn (N : Nat) (o : Oper) : Bool := match o.guard with | some (j, _) => decide (j < N) | none => true
def covN (ops : Array Oper) : Nat → List Nat → List Nat
  | 0, S => S
  | k + 1, S => covN ops k (nub (S ++ S.flatMap fun j => match ops[j]? with | some o => bindOn o | none => []))
def lastOk (ops : Array Oper) (oL : Oper) : Bool :=
  (ops.toList.all (guardIn (ops.size - 1))) && oL.guard.isNone && ((List.range (ops.size - 1)).all fun j => (covN ops (ops.size - 1) (bindOn oL)).contains j) && ((bindOn oL).all fun j => decide (j < ops.size - 1))
theorem covN_in {ops : Array Oper} {L : Nat → Prop} (hcl : ∀ j o, ops[j]? = some o → L j → ∀ k ∈ bindOn o, L k) : (n : Nat) → {S : List Nat} → (∀ x ∈ S, L x) → ∀ x ∈ covN ops n S, L x
  | 0, _, h => h
  | n + 1, S, h => by
    refine covN_in hcl n fun x hx => ?_
    rw [mem_nub, List.mem_append] at hx
    rcases hx with hx | hx
    · exact h x hx
    · obtain ⟨j, hj, hx⟩ := List.mem_flatMap.1 hx
      cases ho : ops[j]? with
      | none => rw [ho] at hx; simp at hx
      | some o => rw [ho] at hx; exact hcl j o ho (h j hj) x hx
def DL (K : St → Prop) : Ex → St → Prop
  | .norm, s => K s
  | _, _ => False
theorem dl_n {K : St → Prop} {s : St} (hw : K s) : DL K .norm s := hw
section
variable {C : Cfg} {nt : Nat} {s : St} {D : Ds} {Q : Px → St → Ds → Prop} {ops : Array Oper} {id : Nat}
theorem pop_get {i : Nat} (hi : i < ops.size - 1) : ops.pop[i]? = ops[i]? := by
  rw [Array.getElem?_pop, if_pos hi]
theorem wanted_pop {o : Oper} {tm : Array Value} (hg : guardIn (ops.size - 1) o = true) : Region.wanted o (yielded ops.pop tm) = Region.wanted o (yielded ops tm) := by
  unfold guardIn at hg
  cases hgd : o.guard with
  | none => simp [Region.wanted, hgd]
  | some q =>
    obtain ⟨j, c⟩ := q
    rw [hgd] at hg
    have hj : j < ops.size - 1 := by simpa using hg
    simp only [Region.wanted, hgd, yielded, pop_get hj]
theorem wpOp_pop {r : Option Nat} {R : Exit → Act → World → Prop} {K : Act → World → Prop} {i : Nat} {a : Act} {w : World} (hi : i < ops.size - 1) (hg : ∀ o, ops[i]? = some o → guardIn (ops.size - 1) o = true) (hw : wpOpIn (Fw r) 0 C.P ops.pop R i K a w) : wpOpIn (Fw r) 0 C.P ops R i K a w := by
  unfold wpOpIn at *
  rw [pop_get hi] at hw
  cases ho : ops[i]? with
  | none => rw [ho] at hw; exact hw
  | some o =>
    simp only [ho] at hw ⊢
    rw [wanted_pop (hg o ho)] at hw
    exact hw
set_option maxHeartbeats 1000000 in
theorem t_drl {oL : Oper} (hb : ops.back? = some oL) (hchk : lastOk ops oL = true) (hw : Gc C nt false (.region id ops.pop true) s (DL fun s1 => To C nt #[oL] [oL] s1 D Q)) : Tc C nt (.region id ops true) s D Q := by
  obtain ⟨k, e, s', hv, hq⟩ := hw.go
  refine ⟨fun hS hok w0 m Z ac w R hr hT hD hw0 hf hR => ?_⟩
  have ih := lv_ok hS.nn hS.orc hS.mix k
  simp only [vc, vcode, if_true, Option.map_eq_some_iff] at hv
  obtain ⟨s1, h1, h2⟩ := hv
  injection h2 with h2 h3
  subst h2; subst h3
  have hto : To C nt #[oL] [oL] s1 D Q := hq
  obtain ⟨hides, RR, nE, F, hpw, hle, rfl⟩ := vdraw_facts h1
  have hds := dstsOk_of hok
  have hdsP : dstsOk nt ops.pop := by
    intro j d hd
    by_cases hj : j < ops.size - 1
    · rw [pop_get hj] at hd; exact hds j d hd
    · rw [Array.getElem?_eq_none (by simp; omega)] at hd; simp at hd
  have hpos : 0 < ops.size := by
    rcases Nat.eq_zero_or_pos ops.size with h | h
    · rw [Array.back?_eq_getElem?, Array.getElem?_eq_none (by omega)] at hb; cases hb
    · exact h
  have hlast : ops[ops.size - 1]? = some oL := by rw [← Array.back?_eq_getElem?]; exact hb
  simp only [lastOk, Bool.and_eq_true, List.all_eq_true, Option.isNone_iff_eq_none, decide_eq_true_eq] at hchk
  obtain ⟨⟨⟨hgs, hgl⟩, hcov⟩, hbl⟩ := hchk
  have hgs' : ∀ i o, ops[i]? = some o → guardIn (ops.size - 1) o = true := fun i o ho => hgs o (by simpa using Array.mem_of_getElem? ho)
  have hsz : ops.pop.size = ops.size - 1 := by simp
  refine wpIn_region_any hS.mix ?_
  -- each order
  have every : ∀ (fuel : Nat) (listed : Array Bool), listed.size = ops.size → listed.getD (ops.size - 1) false = false → listed.toList.count false ≤ fuel →
      (∀ j o, ops[j]? = some o → listed.getD j false = true → ∀ k ∈ bindOn o, listed.getD k false = true) →
      ∀ {m' : AMap} {Z' : Nat → Prop} {a' : Act} {w' : World}, At C nt ac.defers s.T s.h RR s.n nE m Z w (fun k => listed.getD k false) m' Z' a' w' → wpAnyIn Fence.wide 0 C.P .any ops R fuel listed a' w' := by
    intro fuel
    induction fuel with
    | zero =>
      intro listed hs hl hc
      exfalso
      have hlt : ops.size - 1 < listed.size := by omega
      have : false ∈ listed.toList := by
        have h3 : listed[ops.size - 1] = false := by simpa [Array.getD, hlt] using hl
        rw [← h3]; simp
      have := List.count_pos_iff.2 this
      omega
    | succ fuel ihf =>
      intro listed hs hl hc hcl m' Z' a' w' I
      refine ⟨fun hrd => ?_, fun i hi => ?_⟩
      · -- something is ready
        exfalso
        have hall : ∀ j, j < ops.size → listed.getD j false = true := by
          intro j
          induction j using Nat.strongRecOn with
          | ind j ihj =>
            intro hj
            cases hlj : listed.getD j false with
            | true => rfl
            | false =>
              have hjl : j < listed.size := by omega
              obtain ⟨o, ho⟩ : ∃ o, ops[j]? = some o := ⟨ops[j], Array.getElem?_eq_getElem hj⟩
              have hbd : ∀ k ∈ bindOn o, k < j := by
                intro k hk
                by_cases hjN : j < ops.size - 1
                · obtain ⟨rj, o', A, B, g1, g2, g3, g4, g5, g6, g7, g8⟩ := F.at_ j (by rw [hsz]; exact hjN)
                  rw [pop_get hjN, ho] at g1
                  injection g1 with g1; subst g1
                  exact g5.lt _ (g5.bo _ hk)
                · have : j = ops.size - 1 := by omega
                  subst this
                  rw [hlast] at ho
                  injection ho with ho; subst ho
                  exact hbl k hk
              have : j ∈ Region.ready .any ops listed := by
                rw [mem_ready]
                refine ⟨by simpa [Array.getD, hjl] using hlj, o, ho, fun e he hb => ?_⟩
                have hk : e.on ∈ bindOn o := by
                  unfold bindOn
                  exact List.mem_map.2 ⟨e, List.mem_filter.2 ⟨by simpa using he, hb⟩, rfl⟩
                have := hbd _ hk
                exact ihj _ this (by omega)
              rw [hrd] at this
              cases this
        rw [hall _ (by omega)] at hl
        cases hl
      · obtain ⟨g1, o, g2, g3⟩ := mem_ready.1 hi
        have hlt : i < listed.size := by rw [hs]; exact (Array.getElem?_eq_some_iff.1 g2).1
        have hfi : listed[i] = false := by simpa [Array.getD, hlt] using g1
        have hbind : ∀ k ∈ bindOn o, listed.getD k false = true := by
          intro k hk
          unfold bindOn at hk
          obtain ⟨e, he, rfl⟩ := List.mem_map.1 hk
          rw [List.mem_filter] at he
          exact g3 e (by simpa using he.1) he.2
        by_cases hiN : i < ops.size - 1
        · refine wpOp_pop (r := none) hiN (fun o ho => hgs' i o ho) ?_
          refine I.take F hpw ih.1 hS.orc hdsP (by rw [pop_get hiN]; exact g2) (by simpa [Array.getD, hlt] using hfi) hbind none R _ fun a2 w2 m2 Z2 I2 => ?_
          refine ihf (listed.setIfInBounds i true) (by simpa using hs) (by rw [getD_set_ne _ (by omega)]; exact hl) ?_ ?_ (m' := m2) (Z' := Z2) ?_
          · have : (listed.setIfInBounds i true).toList.count false + 1 = listed.toList.count false := by
              rw [Array.toList_setIfInBounds, List.count_set (by simpa using hlt)]
              have h4 : listed.toList[i]'(by simpa using hlt) = false := by simpa using hfi
              have h5 : 0 < listed.toList.count false := List.count_pos_iff.2 (h4 ▸ List.getElem_mem _)
              simp only [h4]
              simp
              have h6 : 0 < Array.count false listed := by simpa using h5
              omega
            omega
          · intro j oj hj hlj k hk
            have keep : ∀ x, listed.getD x false = true → (listed.setIfInBounds i true).getD x false = true := by
              intro x hx
              by_cases hix : i = x
              · subst hix; simp [hlt]
              · rw [getD_set_ne _ hix]; exact hx
            by_cases hij : i = j
            · subst hij
              rw [g2] at hj
              injection hj with hj; subst hj
              exact keep k (hbind k hk)
            · rw [getD_set_ne _ hij] at hlj
              exact keep k (hcl j oj hj hlj k hk)
          · have : (fun k => (listed.setIfInBounds i true).getD k false) = fun k => (listed.getD k false || k == i) := by
              funext k
              by_cases hk : i = k
              · subst hk
                simp [hlt]
              · rw [getD_set_ne _ hk]
                simp [Ne.symm hk]
            rw [this]
            exact I2
        · -- the last one
          have hi' : i = ops.size - 1 := by omega
          subst hi'
          rw [hlast] at g2
          injection g2 with g2; subst g2
          have hallN : ∀ j, j < ops.size - 1 → listed.getD j false = true := fun j hj =>
            covN_in (L := fun j => listed.getD j false = true) hcl (ops.size - 1) hbind j (contains_iff.1 (hcov j (by simpa using hj)))
          have eH : hAt s.h (fun k => listed.getD k false) RR = hAt s.h (fun _ => true) RR := by
            funext b
            exact hAt_congr fun x hx => .inl (hallN _ (by have := F.bd x hx; rw [hsz] at this; exact this))
          have eT : tAt s.T [] (fun k => listed.getD k false) RR = tAt s.T [] (fun _ => true) RR := by
            funext t
            exact tAt_congr fun x hx => .inl (hallN _ (by have := F.bd x hx; rw [hsz] at this; exact this))
          have st := I.step
          have rt := I.rt
          rw [eH] at st
          rw [eT] at rt
          have hful : ∀ j, j < ops.size → (listed.setIfInBounds (ops.size - 1) true).getD j false = true := by
            intro j hj
            by_cases hjN : ops.size - 1 = j
            · subst hjN; simp [hlt]
            · rw [getD_set_ne _ hjN]; exact hallN j (by omega)
          have hnil : Region.ready .any ops (listed.setIfInBounds (ops.size - 1) true) = [] := by
            cases hrd : Region.ready .any ops (listed.setIfInBounds (ops.size - 1) true) with
            | nil => rfl
            | cons x l =>
              have hx : x ∈ Region.ready .any ops (listed.setIfInBounds (ops.size - 1) true) := by rw [hrd]; simp
              obtain ⟨q1, o', q2, _⟩ := mem_ready.1 hx
              have hxl := (Array.getElem?_eq_some_iff.1 q2).1
              have := hful x hxl
              have hxs : x < (listed.setIfInBounds (ops.size - 1) true).size := by simp; omega
              simp only [Array.getD, hxs, dif_pos] at this q1
              rw [this] at q1
              cases q1
          have fin : ∀ a2 w2, R .normal a2 w2 → wpAnyIn Fence.wide 0 C.P .any ops R fuel (listed.setIfInBounds (ops.size - 1) true) a2 w2 := by
            intro a2 w2 hR2
            cases fuel with
            | zero => exact ⟨hnil, hR2⟩
            | succ fuel => exact ⟨fun _ => hR2, fun i hi => by rw [hnil] at hi; cases hi⟩
          have hD' : RD w0 m' Z' (hAt s.h (fun _ => true) RR) w' D a'.defers := by rw [I.di]; exact hD.step hr st
          have key := hto.go hS 0 rfl (by
              intro j d hd
              rcases j with _ | j
              · exact hds (ops.size - 1) d (by rw [hlast]; simpa using hd)
              · simp at hd) w0 m' Z' a' w' R st.hr rt hD' (Nat.le_trans hw0 st.size) (st.freshA hf) fun e s2 D2 x a2 w2 m2 Z2 q2 hx2 st2 => hR e s2 D2 x a2 w2 m2 Z2 q2 hx2 (st.trans st2)
          have key2 : wpOpIn Fence.wide 0 C.P #[oL] R 0 (wpOpsIn Fence.wide 0 C.P #[oL] R []) a' w' := by
            rw [← wpOpsIn_cons]
            exact key
          unfold wpOpIn at key2 ⊢
          rw [hlast]
          have e0 : (#[oL] : Array Oper)[0]? = some oL := rfl
          rw [e0] at key2
          have hwant : ∀ f, Region.wanted oL f = true := fun f => by simp [Region.wanted, hgl]
          simp only [hwant, if_true] at key2 ⊢
          exact Oper.wpIn_mono (fun a2 w2 h => fin a2 w2 h) key2
  have hsize : ∀ k, (Array.replicate ops.size false).getD k false = false := by
    intro k
    by_cases hk : k < ops.size <;> simp [Array.getD, hk]
  have e0 : hAt s.h (fun k => (Array.replicate ops.size false).getD k false) RR = s.h := by
    funext b
    rw [← List.append_nil RR, hAt_pass]
    · rfl
    · intro x _ hon
      rw [hsize] at hon; cases hon
  have eT : ∀ t, tAt s.T [] (fun k => (Array.replicate ops.size false).getD k false) RR t = s.T t := by
    intro t
    rw [← List.append_nil RR, tAt_pass fun x _ => hsize x.1]
    rfl
  have s0 : Step C m Z s.h s.n w m Z s.h s.n { w with drawn := w.drawn + 1 } := Step.drawn hr _
  refine every ops.size _ (by simp) (hsize _) ?_ (fun j o _ hlj => by rw [hsize] at hlj; cases hlj) (m' := m) (Z' := Z) ⟨?_, ?_, rfl, fun b h1 h2 _ => hf b h1, fun x _ hD => by rw [hsize] at hD; cases hD⟩
  · rw [Array.toList_replicate, List.count_replicate]
    simp
  · rw [e0]
    exact { s0 with nle := hle, mnew := fun b e => .inl e }
  · have h1 := s0.rt hr hT
    refine ⟨h1.1, fun t => ?_⟩
    rw [eT t]
    exact h1.2 t
end
section
variable {C : Cfg} {nt : Nat} {s : St} {r : Rs} {Q : Ex → St → Rs → Prop} {h h' : Heap} {n n' : Nat} {T T' : Nat → AV} {ops : Array Oper} {o : Oper} {l : List Oper} {v : AV} {a b : Code} {id j : Nat} {K : St → Rs → Prop}
theorem s_onN (hw : K s r) : onNormS K Q .norm s r := hw
structure Sx (C : Cfg) (nt : Nat) (T : Nat → AV) (dst : Option Tmp) (ops : Array Oper) (l : List Oper) (r : Rs) (Q : St → Rs → Prop) (v : AV) (h' : Heap) (n' : Nat) : Prop where
  go : ∃ T', putT nt T dst v = some T' ∧ Sk C nt ops l ⟨T', h', n'⟩ r Q
theorem s_p {Q : St → Rs → Prop} {dst : Option Tmp} (hp : putT nt T dst v = some T') (hw : Sk C nt ops l ⟨T', h', n'⟩ r Q) : Sx C nt T dst ops l r Q v h' n' := ⟨⟨T', hp, hw⟩⟩
theorem s_op {Q : St → Rs → Prop} (hg : o.guard = none) (hv : Ev (vop C.P (val C T) h n o.op) (K3 (Sx C nt T o.dst ops l r Q))) : Sk C nt ops (o :: l) ⟨T, h, n⟩ r Q := by
  obtain ⟨v, h', n', h1, h2⟩ := hv.go.go
  obtain ⟨T', h3, h4⟩ := h2.go
  exact s_vop hg h1 h3 h4
theorem s_ta {Q : St → Rs → Prop} {x : Operand} {xt asd : TypeId} (hg : o.guard = none) (hop : o.op = .typeAssert x xt asd true) (hv : Ev (tasA asd (C.P.underlying asd) (zeroV C.P asd) (val C T x)) (K1 fun v => Sx C nt T o.dst ops l r Q v h n)) : Sk C nt ops (o :: l) ⟨T, h, n⟩ r Q := by
  obtain ⟨v, h1, h2⟩ := hv.go.go
  obtain ⟨T', h3, h4⟩ := h2.go
  exact s_tas hg hop h1 h3 h4
theorem s_skip (hq : Q .norm s r) : Sc C nt .skip s r Q := s_T (t_skip ⟨rfl, .norm, rfl, hq⟩)
theorem s_dr (hw : Gc C nt false (.region id ops true) s fun e s' => Q e s' r) : Sc C nt (.region id ops true) s r Q := by
  refine s_T (t_dr ?_)
  obtain ⟨k, e, s', h1, h2⟩ := hw.go
  exact ⟨⟨k, e, s', h1, rfl, e, rfl, h2⟩⟩
theorem s_wn {rs : Array ResultVar} {Qd : Heap → Nat → Rs → Prop} (hv : Ev (retsA C s.T s.h rs.toList) (K1 fun _ => Qd s.h s.n r)) : SWr C rs Qd .norm s r := by
  obtain ⟨vs, h1, h2⟩ := hv.go.go
  exact ⟨⟨vs, h1⟩, h2⟩
end
end Go.Proofs.Bv
namespace Go.Proofs.Bv
open Go
theorem pf_uponC {C : Cfg} (hS : Snd C) {f : FuncId} {args : List AV} {v : AV} (hc : Pf C f args noHeap 0 fun p r h' _ => p = false ∧ (frz h' 64 r).map (·.1) = some v) {Z : Nat → Prop} {w : World} {us : List Value} (hr : HR C noMap Z noHeap w) (hus : RVl Z w args noMap us)
    (r : Option Nat) (o : Oper) (a : Act) (next : Act → World → Prop) (Q : Exit → Act → World → Prop)
    (hn : ∀ u w1 m1 Z1 h1 n1, Step C noMap Z noHeap 0 w m1 Z1 h1 n1 w1 → RV Z1 w1 v noMap u → next (a.put o.dst u) w1) :
    o.uponIn (Fw r) 0 C.P a next Q ((callFunc f us.toArray).run C.P w) := by
  obtain ⟨hent, hcall⟩ := hc.go hS noMap Z w us hr hus (fun _ _ => rfl)
  rw [hent, Oper.uponIn_enter]
  refine ⟨fun h => by simp [Fw, Fence.wide] at h, CallsIn.mono hcall ?_⟩
  rintro e w1 ⟨p, r1, h1, n1, m1, Z1, u, ⟨rfl, hk⟩, rfl, s, hu⟩
  simp only [Option.map_eq_some_iff] at hk
  obtain ⟨⟨pr, ids1⟩, hfz, rfl⟩ := hk
  show next (a.put o.dst u) w1
  have hd1 := frz_dom h1 64 hfz
  have hu1 := frz_sound s.hr (Z' := Zof Z1 m1 ids1) (fun _ h => .inl h) 64 hfz (fun b hb mb e => .inr ⟨b, hb, mb, e, rfl⟩) hu
  have hk : ∀ r, r < w.heap.size → w1.heap[r]? = w.heap[r]? := fun r hr' => s.frame r hr' no_own
  have key : ∀ r, Z1 r → Z r ∨ w.heap.size ≤ r := fun r e => by
    rcases s.znew r e with e | e | e
    · exact .inl e
    · exact .inr e
    · exact absurd e no_own
  have sh := Step.shut (n := 0) hr (ids := []) (fun b hb => by simp at hb) (Z2 := Zof Z1 m1 ids1) s.size hk (fun r e => by
      rcases e with e | ⟨b, hb, _⟩
      · exact .inl (s.zext r e)
      · simp at hb) (fun r e => by
      rcases e with e | ⟨b, hb, mb, e1, e2⟩
      · exact (key r e).imp .inl id
      · by_cases hz : Z1 r
        · exact (key r hz).imp .inl id
        · rcases Nat.lt_or_ge r w.heap.size with hlt | hge
          · obtain ⟨cs, es, fz, e3⟩ := hd1 b hb
            exact absurd (s.dom r hlt ⟨b, _, mb, e3, e1, e2, hz⟩) no_own
          · exact .inr hge) (fun r e => by
      rcases e with e | ⟨b, hb, mb, e1, e2⟩
      · exact s.hr.zlt r e
      · obtain ⟨cs, es, fz, e3⟩ := hd1 b hb
        rw [← e2]
        exact s.hr.lt e3 e1) s.os s.tape s.output
  exact hn u w1 noMap _ _ 0 sh hu1
theorem pf_of_Pc {C : Cfg} {f : FuncId} {args : List AV} {v : AV} (hc : Pc C f args v) : Pf C f args noHeap 0 fun p r h' _ => p = false ∧ (frz h' 64 r).map (·.1) = some v := by
  obtain ⟨k, hk⟩ := hc
  unfold pcall at hk
  split at hk <;> try (cases hk; done)
  rename_i r1 h1 n1 he
  refine ⟨fun hS m Z w us hr hus hf => ?_⟩
  obtain ⟨g1, g2⟩ := (lv_ok hS.nn hS.orc hS.mix k).1 f args noHeap 0 r1 h1 n1 he (Nat.zero_le _) m Z w us hr hus (fun b hb _ => hf b hb)
  refine ⟨g1, g2.mono ?_⟩
  rintro e w' ⟨u, m', Z', rfl, st, hu⟩
  exact ⟨false, r1, h1, n1, m', Z', u, ⟨rfl, hk⟩, rfl, st, hu⟩
end Go.Proofs.Bv
