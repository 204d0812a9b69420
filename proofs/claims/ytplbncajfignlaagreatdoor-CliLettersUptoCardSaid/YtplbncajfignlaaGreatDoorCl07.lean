/-
  A part of the proof of CliLettersUptoCardSaid: BvDraw2, BvDraw3, BvDraw4, BvLv, BvMono, BvEval, BvWp, BvWp2, BvEv, BvDrawWp, BvRangeWp, BvEv2.
  Conditions: those that each part names.
-/
import Derived.Test.YtplbncajfignlaaGreatDoorCl06
import Derived.OrdersIn
set_option linter.unusedSimpArgs false
set_option linter.unusedVariables false
namespace Go.Proofs.Bv
open Go
section
variable {C : Cfg} {P : Program} {m m' : AMap} {Z Z' : Nat → Prop} {h h' : Heap} {n n' nt w0 : Nat} {w w' : World}
theorem contains_iff {l : List Nat} {a : Nat} : l.contains a = true ↔ a ∈ l := by simp
theorem dcall_touch {fc : FcF} {f : FuncId} {args : List AV} {v : AV} {tch : List Nat} (hv : dcall C fc f args h n = some (v, tch, h', n')) : ∀ b, b ∉ tch → h' b = h b := by
  unfold dcall at hv
  have fin : ∀ (r : AV) (ids : List Nat) (hf : Heap), hf = (if r.flat then h else shutIds h ids) → ∀ b, b ∉ (if r.flat then [] else ids) → hf b = h b := by
    intro r ids hf e b hb
    subst e
    split
    · rfl
    · rename_i hf
      rw [if_neg hf] at hb
      simp [shutIds, hb]
  split at hv
  · rename_i r ids _
    injection hv with hv; injection hv with e1 hv; injection hv with e2 hv; injection hv with e3 e4; subst e2
    exact fin r ids h' e3.symm
  · split at hv
    · split at hv
      · split at hv <;> try (cases hv; done)
        rename_i v1 h1 n1 hc
        injection hv with hv; injection hv with e1 hv; injection hv with e2 hv; injection hv with e3 e4; subst e2; subst e3; subst e4
        intro b hb
        simp only [List.mem_range', Nat.one_mul, not_exists, not_and] at hb
        have : ¬ (n ≤ b ∧ b < n1) := fun ⟨h1, h2⟩ => hb (b - n) (by omega) (by omega)
        simp only [if_neg this]
      · split at hv <;> try (cases hv; done)
        rename_i v1 h1 n1 hc
        injection hv with hv; injection hv with e1 hv; injection hv with e2 hv; injection hv with e3 e4; subst e2; subst e3; subst e4
        intro b hb
        simp only [List.mem_append, not_or, List.mem_range', Nat.one_mul, not_exists, not_and] at hb
        have : ¬ ((rootss args).contains b = true ∨ (n ≤ b ∧ b < n1)) := by
          rintro (h | ⟨h1, h2⟩)
          · exact hb.1 (contains_iff.1 h)
          · exact hb.2 (b - n) (by omega) (by omega)
        simp only [if_neg this]
    · split at hv <;> try (cases hv; done)
      rename_i as ids _
      split at hv
      · split at hv <;> try (cases hv; done)
        rename_i r h1 n1 _
        injection hv with hv; injection hv with e1 hv; injection hv with e2 hv; injection hv with e3 e4; subst e2; subst e3
        intro b hb
        simp only [List.mem_append, not_or, List.mem_range', Nat.one_mul, not_exists, not_and] at hb
        have : ¬ (n ≤ b ∧ b < n + n1) := fun ⟨q1, q2⟩ => hb.2 (b - n) (by omega) (by omega)
        unfold joinH
        rw [if_neg this]
        unfold shutC
        split
        · rfl
        · simp [shutIds, hb.1]
      · split at hv <;> try (cases hv; done)
        rename_i r _
        injection hv with hv; injection hv with e1 hv; injection hv with e2 hv; injection hv with e3 e4; subst e2
        exact fin _ _ h' e3.symm
theorem dstep_touch {fc : FcF} {ρ : Operand → AV} {op : Op} {v : AV} {tch : List Nat} (hv : dstep C fc ρ h n op = some (v, tch, h', n')) : ∀ b, b ∉ tch → h' b = h b := by
  unfold dstep at hv
  split at hv
  · split at hv <;> try (cases hv; done)
    exact dcall_touch hv
  · simp only [Option.map_eq_some_iff] at hv
    obtain ⟨⟨v1, h1, n1⟩, e, hv⟩ := hv
    injection hv with e1 hv; injection hv with e2 hv; injection hv with e3 e4; subst e1; subst e2; subst e3; subst e4
    exact vop_touch e
theorem dcall_sound {fc : FcF} (hfc : FcOk C fc) (horc : OrcOk C) {f : FuncId} {args : List AV} {v : AV} {tch : List Nat} (hv : dcall C fc f args h n = some (v, tch, h', n')) (hle : n ≤ n') {us : List Value} (hr : HR C m Z h w) (hus : RVl Z w args m us) (hf : ∀ b, n ≤ b → b < n' → m b = none)
    (r : Option Nat) (o : Oper) (a : Act) (next : Act → World → Prop) (Q : Exit → Act → World → Prop) (hn : ∀ u w' m' Z', Step C m Z h n w m' Z' h' n' w' → RV Z' w' v m' u → next (a.put o.dst u) w') :
    o.uponIn (Fw r) 0 C.P a next Q ((callFunc f us.toArray).run C.P w) := by
  unfold dcall at hv
  split at hv
  · rename_i pv ids htry
    have key : anycall C fc f args h n = some (v, h', n') := by
      injection hv with hv; injection hv with e1 hv; injection hv with e2 hv; injection hv with e3 e4; subst e1; subst e3; subst e4
      unfold anycall
      rw [htry]
    exact anycall_sound hfc horc key hle hr hus hf r o a next Q hn
  · rename_i htry
    split at hv
    · rename_i hinl
      split at hv
      rotate_left
      · split at hv <;> try (cases hv; done)
        rename_i v1 h1 n1 hc
        injection hv with hv; injection hv with e1 hv; injection hv with e2 hv; injection hv with e3 e4; subst e1; subst e2; subst e3; subst e4
        have hg : ∀ b x, cutH (rootss args) h b = some x → h b = some x := fun b x e => by
          unfold cutH at e
          split at e
          · exact e
          · cases e
        refine upon_fc hfc hc hle (hr.sub hg) hus hf r o a next Q fun u w1 m1 Z1 s hu => ?_
        refine hn u w1 m1 Z1 ?_ hu
        have s2 : Step C m Z (cutH (rootss args) h) n w m1 Z1 (fun b => if (rootss args).contains b = true ∨ (n ≤ b ∧ b < n1) then h1 b else none) n1 w1 := s.sub fun b x e => by
          by_cases hb : (rootss args).contains b = true ∨ (n ≤ b ∧ b < n1)
          · rw [if_pos hb] at e
            exact e
          · rw [if_neg hb] at e
            cases e
        refine Step.whole hr hg s2 (fun b => decide ((rootss args).contains b = true ∨ (n ≤ b ∧ b < n1))) (fun b hb => ?_) (fun b => ?_) (Nat.le_refl _) (Nat.le_refl _)
        · simp only [decide_eq_false_iff_not] at hb
          simp only [if_neg hb]
          unfold cutH
          rw [if_neg (fun e => hb (.inl e))]
        · simp only [decide_eq_true_eq]
          split <;> rfl
      rename_i hp
      split at hv <;> try (cases hv; done)
      rename_i v1 h1 n1 hc
      injection hv with hv; injection hv with e1 hv; injection hv with e2 hv; injection hv with e3 e4; subst e1; subst e2; subst e3; subst e4
      have hr0 : HR C m Z noHeap w := hr.sub fun b x e => by simp [noHeap] at e
      refine upon_fc hfc hc hle hr0 hus hf r o a next Q fun u w1 m1 Z1 s hu => ?_
      refine hn u w1 m1 Z1 ?_ hu
      have s2 : Step C m Z noHeap n w m1 Z1 (fun b => if n ≤ b ∧ b < n1 then h1 b else none) n1 w1 := s.sub fun b x e => by
        by_cases hb : n ≤ b ∧ b < n1
        · rw [if_pos hb] at e
          exact e
        · rw [if_neg hb] at e
          cases e
      refine Step.whole hr (g := noHeap) (fun b x e => by simp [noHeap] at e) s2 (fun b => decide (n ≤ b ∧ b < n1)) (fun b hb => ?_) (fun b => ?_) (Nat.le_refl _) (Nat.le_refl _)
      · simp only [decide_eq_false_iff_not] at hb
        simp only [if_neg hb, noHeap]
      · simp only [decide_eq_true_eq]
        split <;> rfl
    · rename_i hinl
      have key : anycall C fc f args h n = some (v, h', n') := by
        split at hv <;> try (cases hv; done)
        rename_i as ids hm
        split at hv
        · rename_i hown
          split at hv <;> try (cases hv; done)
          rename_i pv h1 n1 hp
          injection hv with hv; injection hv with e1 hv; injection hv with e2 hv; injection hv with e3 e4; subst e1; subst e2; subst e3; subst e4
          unfold anycall
          rw [htry]
          dsimp only
          rw [if_neg hinl, hm]
          dsimp only
          rw [if_pos hown, hp]
        · rename_i hown
          split at hv <;> try (cases hv; done)
          rename_i pv hp
          injection hv with hv; injection hv with e1 hv; injection hv with e2 hv; injection hv with e3 e4; subst e1; subst e2; subst e3; subst e4
          unfold anycall
          rw [htry]
          dsimp only
          rw [if_neg hinl, hm]
          dsimp only
          rw [if_neg hown, hp]
      exact anycall_sound hfc horc key hle hr hus hf r o a next Q hn
theorem dstep_sound {fc : FcF} (hfc : FcOk C fc) (horc : OrcOk C) (hr : HR C m Z h w) (hf : ∀ b, n ≤ b → b < n' → m b = none) (hle : n ≤ n') {ρ : Operand → AV} {a : Act} (hρ : ∀ x, RV Z w (ρ x) m (a.eval x)) {o : Oper} {v : AV} {tch : List Nat}
    (hv : dstep C fc ρ h n o.op = some (v, tch, h', n')) (r : Option Nat) (next : Act → World → Prop) (Q : Exit → Act → World → Prop)
    (hn : ∀ u w' m' Z', Step C m Z h n w m' Z' h' n' w' → RV Z' w' v m' u → next (a.put o.dst u) w') : o.wpIn (Fw r) 0 C.P a w next Q := by
  refine ⟨fun _ _ => trivial, ?_⟩
  have hnd : ∀ c, o.op ≠ .defer c := by
    intro c e
    rw [e] at hv
    simp [dstep, vop] at hv
  rw [Oper.semAt_eq _ _ _ hnd]
  unfold dstep at hv
  split at hv
  · rename_i f args ts hop
    split at hv <;> try (cases hv; done)
    rename_i fid caps hfv
    have h1 := hρ f
    rw [hfv] at h1
    simp only [RV] at h1
    obtain ⟨cs, hev, hcs⟩ := h1
    have h2 := dcall_sound hfc horc hv hle hr (RVl_append (RVl_map ρ a.eval hρ args.toList) hcs) hf r o a next Q hn
    have e1 : (#[] ++ args.map a.eval ++ cs.toArray : Array Value) = (args.toList.map a.eval ++ cs).toArray := by
      apply Array.ext'
      simp
    have e2 : execOp a.eval o = (do let d ← Deferred.ofValue (a.eval f) (args.map a.eval); invoke d.target d.args : Sem Next) := by
      obtain ⟨dst, op, ty, pos, after, guard⟩ := o
      simp only at hop
      subst hop
      rfl
    rw [e2, hev]
    rw [← e1] at h2
    exact h2
  · simp only [Option.map_eq_some_iff] at hv
    obtain ⟨⟨v1, h1, n1⟩, e, hv⟩ := hv
    injection hv with e1 hv; injection hv with e2 hv; injection hv with e3 e4; subst e1; subst e2; subst e3; subst e4
    obtain ⟨nx, w', m', Z', u, h1, h2, h3, h4⟩ := vop_sound hr hf hρ e
    rw [h1]
    rcases h2 with rfl | ⟨rfl, rfl⟩
    · exact hn u w' m' Z' h3 h4
    · exact hn undef w' m' Z' h3 h4
abbrev Recs := List (Nat × DRec)
theorem recAt_skip {A B : Recs} {k : Nat} (hA : ∀ x ∈ A, x.1 ≠ k) : recAt (A ++ B) k = recAt B k := by
  induction A with
  | nil => rfl
  | cons x A ih =>
    have := hA x (by simp)
    simp only [List.cons_append, recAt, if_neg (Ne.symm this)]
    exact ih fun y hy => hA y (List.mem_cons_of_mem _ hy)
theorem hAt_pass {h0 : Heap} {on : Nat → Bool} {A B : Recs} {b : Nat} (hA : ∀ x ∈ A, on x.1 = true → upsAt x.2.ups b = none) : hAt h0 on (A ++ B) b = hAt h0 on B b := by
  induction A with
  | nil => rfl
  | cons x A ih =>
    have h1 := hA x (by simp)
    have h2 := ih fun y hy => hA y (List.mem_cons_of_mem _ hy)
    simp only [List.cons_append, hAt]
    split
    · rename_i hon
      rw [h1 hon]
      exact h2
    · exact h2
theorem hAt_congr {h0 : Heap} {on on' : Nat → Bool} {b : Nat} : {A : Recs} → (∀ x ∈ A, on x.1 = on' x.1 ∨ upsAt x.2.ups b = none) → hAt h0 on A b = hAt h0 on' A b
  | [], _ => rfl
  | x :: A, hA => by
    have h2 := hAt_congr (h0 := h0) (on := on) (on' := on') (A := A) (b := b) fun y hy => hA y (List.mem_cons_of_mem _ hy)
    simp only [hAt]
    rcases hA x (by simp) with h1 | h1
    · rw [h1, h2]
    · rw [h1, h2]
      simp
theorem tAt_pass {T0 : Nat → AV} {all : List Nat} {on : Nat → Bool} {A B : Recs} {t : Nat} (hA : ∀ x ∈ A, on x.1 = false) : tAt T0 all on (A ++ B) t = tAt T0 all on B t := by
  induction A with
  | nil => rfl
  | cons x A ih =>
    have h1 := hA x (by simp)
    simp only [List.cons_append, tAt, h1, Bool.false_and, Bool.false_eq_true, if_false]
    exact ih fun y hy => hA y (List.mem_cons_of_mem _ hy)
theorem upsAt_map {l : List Nat} {f : Nat → Option Blk} {b : Nat} : upsAt (l.map fun b => (b, f b)) b = if b ∈ l then some (f b) else none := by
  induction l with
  | nil => rfl
  | cons x l ih =>
    simp only [List.map_cons, upsAt, ih, List.mem_cons]
    by_cases hb : b = x
    · subst hb; simp
    · simp [hb]
theorem recAt_mem {recs : Recs} {j : Nat} {r : DRec} (h : recAt recs j = some r) : (j, r) ∈ recs := by
  induction recs with
  | nil => simp [recAt] at h
  | cons x recs ih =>
    simp only [recAt] at h
    split at h
    · rename_i e
      injection h with h
      subst e; subst h
      simp
    · exact List.mem_cons_of_mem _ (ih h)
structure Good (C : Cfg) (fc : FcF) (ops : Array Oper) (all : Nat → List Nat) (T0 : Nat → AV) (h0 : Heap) (hides : Nat → List Nat) (R : Recs) (j : Nat) (r : DRec) (o : Oper) : Prop where
  bo : ∀ k ∈ bindOn o, k ∈ r.pre
  pr : ∀ k ∈ r.pre, k ∈ bindOn o ∨ ∃ j ∈ bindOn o, ∃ rj, recAt R j = some rj ∧ k ∈ rj.pre
  lt : ∀ k ∈ r.pre, k < j
  cl : ∀ k ∈ r.pre, ∀ rk, recAt R k = some rk → ∀ q ∈ rk.pre, q ∈ r.pre
  dst : r.dst = o.dst
  le : r.lo ≤ r.hi
  run : (goes ops (tAt T0 (all j) (fun k => r.pre.contains k) R) o = some true ∧ ∃ tch h', dstep C fc (val C (tAt T0 (all j) (fun k => r.pre.contains k) R)) (hHide (hides j) (hAt h0 (fun k => r.pre.contains k) R)) r.lo o.op = some (r.v, tch, h', r.hi) ∧
      (∀ b ∈ tch, b ∉ hides j) ∧ r.ups = tch.map fun b => (b, h' b)) ∨ (goes ops (tAt T0 (all j) (fun k => r.pre.contains k) R) o = some false ∧ r.v = .tup [] ∧ r.ups = [])
theorem dgo_spec {fc : FcF} {ops : Array Oper} {all : Nat → List Nat} {T0 : Nat → AV} {h0 : Heap} {hides : Nat → List Nat} : (l : List Oper) → {i : Nat} → {recs : Recs} → {n : Nat} → {R : Recs} → {nE : Nat} →
    dgo C fc ops all T0 h0 hides l i recs n = some (R, nE) → ops.toList.drop i = l →
    (∀ x ∈ recs, x.1 < i ∧ (∀ k ∈ x.2.pre, k < x.1) ∧ ∀ k ∈ x.2.pre, ∀ rk, recAt recs k = some rk → ∀ q ∈ rk.pre, q ∈ x.2.pre) →
    n ≤ nE ∧ (∃ ext, R = ext ++ recs ∧ ∀ x ∈ ext, i ≤ x.1 ∧ x.1 < ops.size) ∧
    ∀ j, i ≤ j → j < ops.size → ∃ r o A B, ops[j]? = some o ∧ R = A ++ (j, r) :: B ∧ (∀ x ∈ A, j < x.1) ∧ (∀ x ∈ B, x.1 < j) ∧ Good C fc ops all T0 h0 hides R j r o ∧ n ≤ r.lo ∧ r.hi ≤ nE ∧ (∀ x ∈ A, r.hi ≤ x.2.lo)
  | [], i, recs, n, R, nE, hv, hl, hI => by
    simp only [dgo, Option.some.injEq, Prod.mk.injEq] at hv
    obtain ⟨rfl, rfl⟩ := hv
    refine ⟨Nat.le_refl _, ⟨[], rfl, by simp⟩, fun j h1 h2 => ?_⟩
    have := congrArg List.length hl
    simp at this
    omega
  | o :: l, i, recs, n, R, nE, hv, hl, hI => by
    have hlt : i < ops.size := by
      rcases Nat.lt_or_ge i ops.size with h | h
      · exact h
      · rw [List.drop_eq_nil_of_le (by simpa using h)] at hl; cases hl
    have ho : ops[i]? = some o := by
      have := congrArg List.head? hl
      simp only [List.head?_drop, List.head?_cons] at this
      simpa using this
    have hl' : ops.toList.drop (i + 1) = l := by
      have := congrArg List.tail hl
      simpa using this
    simp only [dgo] at hv
    split at hv <;> try (cases hv; done)
    rename_i hbo
    have hbo' : ∀ k ∈ bindOn o, k < i := by simpa using hbo
    -- what the new record's forerunners are
    have hlt' : ∀ k ∈ preOf recs (bindOn o), k < i := by
      intro k hk
      rcases List.mem_append.1 (mem_nub.1 hk) with hk | hk
      · exact hbo' k hk
      · obtain ⟨j, hj, hk⟩ := List.mem_flatMap.1 hk
        cases hrj : recAt recs j with
        | none => rw [hrj] at hk; simp at hk
        | some rj =>
          rw [hrj] at hk
          have hm := recAt_mem hrj
          have := (hI _ hm).2.1 k hk
          have := hbo' j hj
          omega
    have hcl' : ∀ k ∈ preOf recs (bindOn o), ∀ rk, recAt recs k = some rk → ∀ q ∈ rk.pre, q ∈ preOf recs (bindOn o) := by
      intro k hk rk hrk q hq
      refine mem_nub.2 ?_
      rcases List.mem_append.1 (mem_nub.1 hk) with hk | hk
      · exact List.mem_append.2 (.inr (List.mem_flatMap.2 ⟨k, hk, by rw [hrk]; exact hq⟩))
      · obtain ⟨j, hj, hk⟩ := List.mem_flatMap.1 hk
        cases hrj : recAt recs j with
        | none => rw [hrj] at hk; simp at hk
        | some rj =>
          rw [hrj] at hk
          have hm := recAt_mem hrj
          have := (hI _ hm).2.2 k hk rk hrk q hq
          exact List.mem_append.2 (.inr (List.mem_flatMap.2 ⟨j, hj, by rw [hrj]; exact this⟩))
    have fin : ∀ (ri : DRec), ri.pre = preOf recs (bindOn o) → ri.dst = o.dst → ri.lo = n → ri.lo ≤ ri.hi →
        ((goes ops (tAt T0 (all i) (fun k => ri.pre.contains k) recs) o = some true ∧ ∃ tch h', dstep C fc (val C (tAt T0 (all i) (fun k => ri.pre.contains k) recs)) (hHide (hides i) (hAt h0 (fun k => ri.pre.contains k) recs)) ri.lo o.op = some (ri.v, tch, h', ri.hi) ∧
          (∀ b ∈ tch, b ∉ hides i) ∧ ri.ups = tch.map fun b => (b, h' b)) ∨ (goes ops (tAt T0 (all i) (fun k => ri.pre.contains k) recs) o = some false ∧ ri.v = .tup [] ∧ ri.ups = [])) →
        dgo C fc ops all T0 h0 hides l (i + 1) ((i, ri) :: recs) ri.hi = some (R, nE) →
        n ≤ nE ∧ (∃ ext, R = ext ++ recs ∧ ∀ x ∈ ext, i ≤ x.1 ∧ x.1 < ops.size) ∧
        ∀ j, i ≤ j → j < ops.size → ∃ r o A B, ops[j]? = some o ∧ R = A ++ (j, r) :: B ∧ (∀ x ∈ A, j < x.1) ∧ (∀ x ∈ B, x.1 < j) ∧ Good C fc ops all T0 h0 hides R j r o ∧ n ≤ r.lo ∧ r.hi ≤ nE ∧ (∀ x ∈ A, r.hi ≤ x.2.lo) := by
      intro ri e1 e2 e3 e4 e5 e6
      have hI' : ∀ x ∈ (i, ri) :: recs, x.1 < i + 1 ∧ (∀ k ∈ x.2.pre, k < x.1) ∧ ∀ k ∈ x.2.pre, ∀ rk, recAt ((i, ri) :: recs) k = some rk → ∀ q ∈ rk.pre, q ∈ x.2.pre := by
        intro x hx
        rcases List.mem_cons.1 hx with rfl | hx
        · refine ⟨Nat.lt_succ_self _, fun k hk => hlt' k (e1 ▸ hk), fun k hk rk hrk q hq => ?_⟩
          rw [show ((i, ri).2).pre = ri.pre from rfl, e1] at hk ⊢
          have hki := hlt' k hk
          simp only [recAt] at hrk
          rw [if_neg (by omega)] at hrk
          exact hcl' k hk rk hrk q hq
        · obtain ⟨g1, g2, g3⟩ := hI x hx
          refine ⟨by omega, g2, fun k hk rk hrk q hq => ?_⟩
          have hki := g2 k hk
          simp only [recAt] at hrk
          rw [if_neg (by omega)] at hrk
          exact g3 k hk rk hrk q hq
      obtain ⟨q1, ⟨ext, q2, q3⟩, q4⟩ := dgo_spec l e6 hl' hI'
      refine ⟨by omega, ⟨ext ++ [(i, ri)], by rw [q2]; simp, fun x hx => ?_⟩, fun j hj1 hj2 => ?_⟩
      · rcases List.mem_append.1 hx with hx | hx
        · have := q3 x hx; omega
        · simp only [List.mem_singleton] at hx
          subst hx
          exact ⟨Nat.le_refl _, hlt⟩
      · rcases Nat.lt_or_ge i j with hij | hij
        · obtain ⟨r, o', A, B, g1, g2, g3, g4, g5, g6, g7, g8⟩ := q4 j hij hj2
          exact ⟨r, o', A, B, g1, g2, g3, g4, g5, by omega, g7, g8⟩
        · obtain rfl : i = j := by omega
          refine ⟨ri, o, ext, recs, ho, q2, fun x hx => by have := q3 x hx; omega, fun x hx => (hI x hx).1, ?_, by omega, q1, fun x hx => ?_⟩
          · -- the new record in the light of all
            have off : ∀ x ∈ ext ++ [(i, ri)], (fun k => ri.pre.contains k) x.1 = false := by
              intro x hx
              have hxi : i ≤ x.1 := by
                rcases List.mem_append.1 hx with hx | hx
                · have := q3 x hx; omega
                · simp only [List.mem_singleton] at hx; subst hx; exact Nat.le_refl _
              cases hc : ri.pre.contains x.1 with
              | false => exact hc
              | true =>
                have := hlt' x.1 (e1 ▸ contains_iff.1 hc)
                omega
            have eR : R = (ext ++ [(i, ri)]) ++ recs := by rw [q2]; simp
            have eT : tAt T0 (all i) (fun k => ri.pre.contains k) R = tAt T0 (all i) (fun k => ri.pre.contains k) recs := by
              funext t
              rw [eR]
              exact tAt_pass off
            have eH : hAt h0 (fun k => ri.pre.contains k) R = hAt h0 (fun k => ri.pre.contains k) recs := by
              funext b
              rw [eR]
              exact hAt_pass fun x hx hon => absurd ((off x hx).symm.trans hon) (by decide)
            have skip : ∀ k, k < i → recAt R k = recAt recs k := fun k hki => by
              rw [eR, recAt_skip (fun x hx => by
                rcases List.mem_append.1 hx with hx | hx
                · have := q3 x hx; omega
                · simp only [List.mem_singleton] at hx; subst hx; simp only [ne_eq]; omega)]
            refine ⟨fun k hk => by rw [e1]; exact mem_nub.2 (List.mem_append.2 (.inl hk)), fun k hk => ?_, fun k hk => hlt' k (e1 ▸ hk), fun k hk rk hrk q hq => ?_, e2, e4, by rw [eT, eH]; exact e5⟩
            · rw [e1] at hk
              rcases List.mem_append.1 (mem_nub.1 hk) with hk | hk
              · exact .inl hk
              · obtain ⟨j, hj, hk⟩ := List.mem_flatMap.1 hk
                cases hrj : recAt recs j with
                | none => rw [hrj] at hk; simp at hk
                | some rj =>
                  rw [hrj] at hk
                  exact .inr ⟨j, hj, rj, by rw [skip j (hbo' j hj)]; exact hrj, hk⟩
            · have hki := hlt' k (e1 ▸ hk)
              rw [skip k hki] at hrk
              rw [e1] at hk ⊢
              exact hcl' k hk rk hrk q hq
          · -- later records begin behind
            have hx' : x ∈ R := by rw [q2]; exact List.mem_append.2 (.inl hx)
            have hxi := q3 x hx
            obtain ⟨r, o', A, B, g1, g2, g3, g4, g5, g6, g7, g8⟩ := q4 x.1 hxi.1 hxi.2
            rw [g2] at hx'
            rcases List.mem_append.1 hx' with hx' | hx'
            · have := g3 x hx'; omega
            · rcases List.mem_cons.1 hx' with he | hx'
              · have e9 : x.2 = r := congrArg Prod.snd he
                rw [e9]
                exact g6
              · have := g4 x hx'; omega
    split at hv
    · rename_i hg
      split at hv <;> try (cases hv; done)
      rename_i v tch h' n1 hd
      split at hv <;> try (cases hv; done)
      rename_i hc
      exact fin _ rfl rfl rfl hc.1 (.inl ⟨hg, tch, h', hd, by simpa using hc.2, rfl⟩) hv
    · rename_i hg
      exact fin _ rfl rfl rfl (Nat.le_refl _) (.inr ⟨hg, rfl, rfl⟩) hv
    · cases hv
end
end Go.Proofs.Bv
namespace Go.Proofs.Bv
open Go
section
variable {C : Cfg} {P : Program} {m m' m'' : AMap} {Z Z' Z'' : Nat → Prop} {h h' h'' : Heap} {n n' nt w0 : Nat} {w w' w'' : World}
theorem Step.within (s : Step C m Z h n w m' Z' h' n' w') (t : Step C m' Z' h' n w' m'' Z'' h'' n' w'') : Step C m Z h n w m'' Z'' h'' n' w'' := by
  have t1 : Step C m' Z' h' n' w' m'' Z'' h'' n' w'' ∨ True := .inr trivial
  exact {
    hr := t.hr
    mext := fun b x e => t.mext b x (s.mext b x e)
    mnew := fun b e => by
      rcases t.mnew b e with e | e
      · exact s.mnew b e
      · exact .inr e
    zext := fun r e => t.zext r (s.zext r e)
    znew := fun r e => by
      rcases t.znew r e with e | e | e
      · exact s.znew r e
      · exact .inr (.inl (Nat.le_trans s.size e))
      · rcases Nat.lt_or_ge r w.heap.size with h | h
        · exact .inr (.inr (s.dom r h e))
        · exact .inr (.inl h)
    nle := s.nle
    size := Nat.le_trans s.size t.size
    frame := fun r hr hno => by
      rw [t.frame r (Nat.lt_of_lt_of_le hr s.size) (fun e => hno (s.dom r hr e)), s.frame r hr hno]
    dom := fun r hr e => s.dom r hr (t.dom r (Nat.lt_of_lt_of_le hr s.size) e)
    os := t.os.trans s.os
    tape := t.tape.trans s.tape
    output := t.output.trans s.output }
theorem upsAt_none {l : List (Nat × Option Blk)} {b : Nat} : upsAt l b = none ↔ b ∉ l.map (·.1) := by
  induction l with
  | nil => simp [upsAt]
  | cons x l ih =>
    simp only [upsAt, List.map_cons, List.mem_cons, not_or]
    by_cases hb : b = x.1
    · simp [hb]
    · simp [hb, ih]
structure Facts (C : Cfg) (fc : FcF) (ops : Array Oper) (all : Nat → List Nat) (T0 : Nat → AV) (h0 : Heap) (hides : Nat → List Nat) (R : Recs) (n0 nE : Nat) : Prop where
  at_ : ∀ j, j < ops.size → ∃ r o A B, ops[j]? = some o ∧ R = A ++ (j, r) :: B ∧ (∀ x ∈ A, j < x.1) ∧ (∀ x ∈ B, x.1 < j) ∧ Good C fc ops all T0 h0 hides R j r o ∧ n0 ≤ r.lo ∧ r.hi ≤ nE ∧ (∀ x ∈ A, r.hi ≤ x.2.lo)
  bd : ∀ x ∈ R, x.1 < ops.size
  nd : ∀ (i j : Nat) (o o' : Oper) (t : Tmp), ops[i]? = some o → ops[j]? = some o' → i ≠ j → o.dst = some t → o'.dst ≠ some t
  al : ∀ (i : Nat) (o : Oper) (t : Tmp), ops[i]? = some o → o.dst = some t → ∀ k, (all k).contains t = true ∨ k ∈ bindOn o
  hid : ∀ x ∈ R, ∀ b ∈ incs R x.1, b ∈ hides x.1
section
variable {fc : FcF} {ops : Array Oper} {all : Nat → List Nat} {T0 : Nat → AV} {h0 : Heap} {hides : Nat → List Nat} {R : Recs} {n0 nE : Nat}
theorem Facts.mem (F : Facts C fc ops all T0 h0 hides R n0 nE) {x : Nat × DRec} (hx : x ∈ R) : ∃ o A B, ops[x.1]? = some o ∧ R = A ++ x :: B ∧ (∀ y ∈ A, x.1 < y.1) ∧ (∀ y ∈ B, y.1 < x.1) ∧ Good C fc ops all T0 h0 hides R x.1 x.2 o ∧ n0 ≤ x.2.lo ∧ x.2.hi ≤ nE ∧ (∀ y ∈ A, x.2.hi ≤ y.2.lo) := by
  obtain ⟨r, o, A, B, g1, g2, g3, g4, g5, g6, g7, g8⟩ := F.at_ x.1 (F.bd x hx)
  have : r = x.2 := by
    have hx' := hx
    rw [g2] at hx'
    rcases List.mem_append.1 hx' with h | h
    · have := g3 x h; omega
    · rcases List.mem_cons.1 h with h | h
      · exact (congrArg Prod.snd h).symm
      · have := g4 x h; omega
  subst this
  exact ⟨o, A, B, g1, g2, g3, g4, g5, g6, g7, g8⟩
theorem Facts.recd (F : Facts C fc ops all T0 h0 hides R n0 nE) {x : Nat × DRec} (hx : x ∈ R) : recAt R x.1 = some x.2 := by
  obtain ⟨o, A, B, g1, g2, g3, g4, g5, g6, g7, g8⟩ := F.mem hx
  rw [g2, recAt_skip fun y hy => by have := g3 y hy; omega]
  simp [recAt]
theorem Facts.same (F : Facts C fc ops all T0 h0 hides R n0 nE) {x y : Nat × DRec} (hx : x ∈ R) (hy : y ∈ R) (e : x.1 = y.1) : x = y := by
  have h1 := F.recd hx
  have h2 := F.recd hy
  rw [e, h2] at h1
  injection h1 with h1
  exact Prod.ext e h1.symm
theorem Facts.dist (F : Facts C fc ops all T0 h0 hides R n0 nE) {x y : Nat × DRec} (hx : x ∈ R) (hy : y ∈ R) (hne : x.1 ≠ y.1) {t : Nat} (hd : x.2.dst = some t) : y.2.dst ≠ some t := by
  obtain ⟨o, A, B, g1, g2, g3, g4, g5, g6, g7, g8⟩ := F.mem hx
  obtain ⟨o', A', B', f1, f2, f3, f4, f5, f6, f7, f8⟩ := F.mem hy
  rw [f5.dst]
  exact F.nd x.1 y.1 o o' t g1 f1 hne (by rw [← g5.dst]; exact hd)
theorem Facts.inall (F : Facts C fc ops all T0 h0 hides R n0 nE) {x : Nat × DRec} (hx : x ∈ R) {t : Nat} (hd : x.2.dst = some t) (k : Nat) : (all k).contains t = true ∨ k ∈ x.2.pre := by
  obtain ⟨o, A, B, g1, g2, g3, g4, g5, g6, g7, g8⟩ := F.mem hx
  exact (F.al x.1 o t g1 (by rw [← g5.dst]; exact hd) k).imp id fun h => g5.bo k h
theorem Facts.apart (F : Facts C fc ops all T0 h0 hides R n0 nE) {x y : Nat × DRec} (hx : x ∈ R) (hy : y ∈ R) (hlt : x.1 < y.1) : x.2.hi ≤ y.2.lo := by
  obtain ⟨o, A, B, g1, g2, g3, g4, g5, g6, g7, g8⟩ := F.mem hx
  have hy' := hy
  rw [g2] at hy'
  rcases List.mem_append.1 hy' with h | h
  · exact g8 y h
  · rcases List.mem_cons.1 h with h | h
    · subst h; omega
    · have := g4 y h; omega
theorem Facts.inc (F : Facts C fc ops all T0 h0 hides R n0 nE) {x y : Nat × DRec} (hx : x ∈ R) (hy : y ∈ R) (h1 : y.1 ≠ x.1) (h2 : y.1 ∉ x.2.pre) (h3 : x.1 ∉ y.2.pre) {b : Nat} (hb : b ∉ hides x.1) : upsAt y.2.ups b = none := by
  refine upsAt_none.2 fun hm => hb (F.hid x hx b ?_)
  unfold incs
  rw [F.recd hx]
  simp only [List.mem_flatMap]
  refine ⟨y, hy, ?_⟩
  rw [if_neg]
  · exact hm
  · rintro (h | h | h)
    · exact h1 h
    · exact h2 (contains_iff.1 h)
    · exact h3 (contains_iff.1 h)
theorem tAt_none {al : List Nat} {D : Nat → Bool} {t : Nat} : {S : Recs} → (∀ y ∈ S, y.2.dst ≠ some t) → tAt T0 al D S t = if al.contains t then .junk else T0 t
  | [], _ => rfl
  | y :: S, hS => by
    have h2 := hS y (by simp)
    simp only [tAt]
    rw [if_neg (by simp [h2])]
    exact tAt_none fun z hz => hS z (List.mem_cons_of_mem _ hz)
theorem tAt_sub {al : List Nat} (hp : ∀ x ∈ R, ∀ y ∈ R, x.1 ≠ y.1 → ∀ t, x.2.dst = some t → y.2.dst ≠ some t) (hpw : R.Pairwise fun x y => y.1 < x.1)
    {D D' : Nat → Bool} (hall : ∀ x ∈ R, ∀ t, x.2.dst = some t → al.contains t = true ∨ D x.1 = false) (hD : ∀ k, D' k = true → D k = true) (t : Nat) : tAt T0 al D' R t = .junk ∨ tAt T0 al D' R t = tAt T0 [] D R t := by
  induction R with
  | nil =>
    simp only [tAt]
    split
    · exact .inl rfl
    · exact .inr rfl
  | cons x R ih =>
    have ih := ih (fun x hx y hy => hp x (List.mem_cons_of_mem _ hx) y (List.mem_cons_of_mem _ hy)) (List.pairwise_cons.1 hpw).2 (fun x hx => hall x (List.mem_cons_of_mem _ hx))
    have hpx := (List.pairwise_cons.1 hpw).1
    simp only [tAt]
    by_cases hd : x.2.dst = some t
    · have hR : ∀ y ∈ R, y.2.dst ≠ some t := fun y hy => hp x (by simp) y (List.mem_cons_of_mem _ hy) (by have := hpx y hy; omega) t hd
      simp only [hd, beq_self_eq_true, Bool.and_true]
      by_cases h1 : D' x.1 = true
      · simp [h1, hD _ h1]
      · rw [if_neg h1, tAt_none hR]
        by_cases hc : al.contains t = true
        · rw [if_pos hc]; exact .inl rfl
        · rw [if_neg hc]
          have h := (hall x (by simp) t hd).resolve_left hc
          rw [if_neg (by rw [h]; simp), tAt_none hR]
          exact .inr rfl
    · have hb : (x.2.dst == some t) = false := by simpa using hd
      simp only [hb, Bool.and_false, Bool.false_eq_true, if_false]
      exact ih
theorem tAt_congr {al : List Nat} {D D' : Nat → Bool} {t : Nat} : {A : Recs} → (∀ x ∈ A, D x.1 = D' x.1 ∨ x.2.dst ≠ some t) → tAt T0 al D A t = tAt T0 al D' A t
  | [], _ => rfl
  | x :: A, hA => by
    have h2 := tAt_congr (al := al) (A := A) fun y hy => hA y (List.mem_cons_of_mem _ hy)
    simp only [tAt]
    rcases hA x (by simp) with h1 | h1
    · rw [h1, h2]
    · rw [show (x.2.dst == some t) = false by simpa using h1, h2]
      simp
theorem dgo_desc : (l : List Oper) → {i : Nat} → {recs : Recs} → {n : Nat} → {R : Recs} → {nE : Nat} → dgo C fc ops all T0 h0 hides l i recs n = some (R, nE) →
    (∀ x ∈ recs, x.1 < i) → recs.Pairwise (fun x y => y.1 < x.1) → R.Pairwise fun x y => y.1 < x.1
  | [], i, recs, n, R, nE, hv, h1, h2 => by
    simp only [dgo, Option.some.injEq, Prod.mk.injEq] at hv
    rw [← hv.1]; exact h2
  | o :: l, i, recs, n, R, nE, hv, h1, h2 => by
    have nx : ∀ (r : DRec) {n' : Nat}, dgo C fc ops all T0 h0 hides l (i + 1) ((i, r) :: recs) n' = some (R, nE) → R.Pairwise fun x y => y.1 < x.1 := by
      intro r n' e
      refine dgo_desc l e (fun x hx => ?_) (List.pairwise_cons.2 ⟨fun y hy => h1 y hy, h2⟩)
      rcases List.mem_cons.1 hx with rfl | hx
      · exact Nat.lt_succ_self _
      · exact Nat.lt_succ_of_lt (h1 x hx)
    simp only [dgo] at hv
    split at hv <;> try (cases hv; done)
    split at hv
    · split at hv <;> try (cases hv; done)
      split at hv <;> try (cases hv; done)
      exact nx _ hv
    · exact nx _ hv
    · cases hv
end
end
end Go.Proofs.Bv
namespace Go.Proofs.Bv
open Go
section
variable {C : Cfg} {P : Program} {m m' m'' : AMap} {Z Z' Z'' : Nat → Prop} {h h' h'' : Heap} {n n' nt : Nat} {w0 : List Deferred} {w w' w'' : World}
variable {fc : FcF} {ops : Array Oper} {all : Nat → List Nat} {T0 : Nat → AV} {h0 : Heap} {hides : Nat → List Nat} {R : Recs} {n0 nE : Nat}
structure At (C : Cfg) (nt : Nat) (w0 : List Deferred) (T0 : Nat → AV) (h0 : Heap) (R : Recs) (n0 nE : Nat) (m0 : AMap) (Z0 : Nat → Prop) (v0 : World) (D : Nat → Bool) (m : AMap) (Z : Nat → Prop) (a : Act) (w : World) : Prop where
  step : Step C m0 Z0 h0 n0 v0 m Z (hAt h0 D R) nE w
  rt : RT Z w nt (tAt T0 [] D R) m a.tmps
  di : a.defers = w0
  free : ∀ b, n0 ≤ b → b < nE → (∀ x ∈ R, D x.1 = true → ¬ (x.2.lo ≤ b ∧ b < x.2.hi)) → m b = none
  cl : ∀ x ∈ R, D x.1 = true → ∀ k ∈ x.2.pre, D k = true
theorem At.take (F : Facts C fc ops all T0 h0 hides R n0 nE) (hpw : R.Pairwise fun x y => y.1 < x.1) (hfc : FcOk C fc) (horc : OrcOk C) (hds : dstsOk nt ops) {m0 : AMap} {Z0 : Nat → Prop} {v0 : World} {D : Nat → Bool} {a : Act}
    (I : At C nt w0 T0 h0 R n0 nE m0 Z0 v0 D m Z a w) {i : Nat} {o : Oper} (ho : ops[i]? = some o) (hDi : D i = false) (hbo : ∀ k ∈ bindOn o, D k = true) (r : Option Nat) (Q : Exit → Act → World → Prop) (K : Act → World → Prop)
    (hK : ∀ a' w' m' Z', At C nt w0 T0 h0 R n0 nE m0 Z0 v0 (fun k => D k || k == i) m' Z' a' w' → K a' w') : wpOpIn (Fw r) 0 C.P ops Q i K a w := by
  have hi : i < ops.size := (Array.getElem?_eq_some_iff.1 ho).1
  obtain ⟨ri, o', A, B, g1, g2, g3, g4, g5, g6, g7, g8⟩ := F.at_ i hi
  obtain rfl : o = o' := by rw [ho] at g1; injection g1
  have hmi : (i, ri) ∈ R := by rw [g2]; simp
  have hrec : recAt R i = some ri := F.recd hmi
  -- what went before is there
  have hpre : ∀ k, ri.pre.contains k = true → D k = true := by
    intro k hk
    rcases g5.pr k (contains_iff.1 hk) with h | ⟨j, hj, rj, hrj, hk⟩
    · exact hbo k h
    · exact I.cl (j, rj) (recAt_mem hrj) (hbo j hj) k hk
  have hdist : ∀ x ∈ R, ∀ y ∈ R, x.1 ≠ y.1 → ∀ t, x.2.dst = some t → y.2.dst ≠ some t := fun x hx y hy hne t hd => F.dist hx hy hne hd
  have hpreT : RT Z w nt (tAt T0 (all i) (fun k => ri.pre.contains k) R) m a.tmps := by
    refine ⟨I.rt.1, fun t => ?_⟩
    rcases tAt_sub (T0 := T0) (al := all i) (D := D) hdist hpw (fun x hx t hd => (F.inall hx hd i).imp id fun h => by
      cases hDx : D x.1 with
      | false => rfl
      | true =>
        have := I.cl x hx hDx i h
        rw [hDi] at this; cases this) hpre t with e | e
    · rw [e]; simp only [RV]
    · rw [e]; exact I.rt.2 t
  -- records that are not i's and not i's forerunners
  have hinc : ∀ x ∈ R, x.1 ≠ i → D x.1 = true → ri.pre.contains x.1 = false → ∀ b, b ∉ hides i → upsAt x.2.ups b = none := by
    intro x hx hne hD hp b hb
    refine F.inc (x := (i, ri)) hmi hx hne (fun h => ?_) (fun h => ?_) hb
    · rw [contains_iff.2 h] at hp; cases hp
    · have := I.cl x hx hD i h
      rw [hDi] at this; cases this
  have hsub : ∀ b x, hHide (hides i) (hAt h0 (fun k => ri.pre.contains k) R) b = some x → hAt h0 D R b = some x := by
    intro b x e
    unfold hHide at e
    split at e
    · cases e
    · rename_i hb
      rw [contains_iff] at hb
      rw [← e]
      refine hAt_congr fun y hy => ?_
      cases hp : ri.pre.contains y.1 with
      | true => exact .inl (hpre _ hp)
      | false =>
        cases hD : D y.1 with
        | false => exact .inl rfl
        | true => exact .inr (hinc y hy (fun e => by rw [e, hDi] at hD; cases hD) hD hp b hb)
  have tmpsEq : ∀ t, ri.dst ≠ some t → tAt T0 [] (fun k => D k || k == i) R t = tAt T0 [] D R t := by
    intro t ht
    refine tAt_congr fun x hx => ?_
    by_cases hxi : x.1 = i
    · right
      have : x = (i, ri) := F.same hx hmi hxi
      rw [this]; exact ht
    · left
      simp [hxi]
  have tmpsAt : ∀ t, ri.dst = some t → tAt T0 [] (fun k => D k || k == i) R t = ri.v := by
    intro t ht
    rw [g2]
    have : ∀ (S : Recs), (∀ y ∈ S, y.2.dst ≠ some t) → ∀ S', tAt T0 [] (fun k => D k || k == i) (S ++ S') t = tAt T0 [] (fun k => D k || k == i) S' t := by
      intro S hS S'
      induction S with
      | nil => rfl
      | cons y S ih =>
        have h2 := hS y (by simp)
        simp only [List.cons_append, tAt]
        rw [if_neg (by simp [h2])]
        exact ih fun z hz => hS z (List.mem_cons_of_mem _ hz)
    rw [this A fun y hy => F.dist (x := (i, ri)) (y := y) hmi (by rw [g2]; exact List.mem_append.2 (.inl hy)) (by have := g3 y hy; simp only; omega) ht]
    simp [tAt, ht]
  have clNew : ∀ x ∈ R, (D x.1 || x.1 == i) = true → ∀ k ∈ x.2.pre, (D k || k == i) = true := by
    intro x hx hD k hk
    rw [Bool.or_eq_true] at hD ⊢
    left
    rcases hD with hD | hD
    · exact I.cl x hx hD k hk
    · have : x = (i, ri) := F.same hx hmi (by simpa using hD)
      rw [this] at hk
      exact hpre k (contains_iff.2 hk)
  have rtNew : ∀ {m' : AMap} {Z' : Nat → Prop} {w' : World} {u : Value}, RT Z' w' nt (tAt T0 [] D R) m' a.tmps → RV Z' w' ri.v m' u → RT Z' w' nt (tAt T0 [] (fun k => D k || k == i) R) m' (a.put o.dst u).tmps := by
    intro m' Z' w' u hT hu
    have hdo : ri.dst = o.dst := g5.dst
    cases hd : o.dst with
    | none =>
      refine ⟨by simpa [Act.put] using hT.1, fun t => ?_⟩
      rw [tmpsEq t (by rw [hdo, hd]; simp)]
      simpa [Act.put] using hT.2 t
    | some d =>
      have hdn : d < nt := hds i d (by rw [ho]; exact hd)
      have h1 := hT.put (dst := some d) hu (show putT nt _ (some d) ri.v = some _ by simp only [putT]; rw [if_pos hdn])
      refine ⟨h1.1, fun t => ?_⟩
      by_cases ht : t = d
      · subst ht
        have := h1.2 t
        rw [upd_same] at this
        rw [tmpsAt t (by rw [hdo, hd])]
        exact this
      · have := h1.2 t
        rw [upd_ne _ _ ht] at this
        rw [tmpsEq t (by rw [hdo, hd]; intro e; injection e with e; exact ht e.symm)]
        exact this
  have freeNew : ∀ {m' : AMap}, (∀ b, m' b ≠ none → m b ≠ none ∨ (ri.lo ≤ b ∧ b < ri.hi)) → ∀ b, n0 ≤ b → b < nE → (∀ x ∈ R, (D x.1 || x.1 == i) = true → ¬ (x.2.lo ≤ b ∧ b < x.2.hi)) → m' b = none := by
    intro m' hm b h1 h2 h3
    rcases Option.eq_none_or_eq_some (m' b) with e | ⟨x, e⟩
    · exact e
    · rcases hm b (by simp [e]) with h | h
      · exact absurd (I.free b h1 h2 fun x hx hD => h3 x hx (by simp [hD])) h
      · exact absurd h (h3 (i, ri) hmi (by simp))
  have hgd : ∀ j c d, o.guard = some (j, c) → (ops[j]?).bind (·.dst) = some d → d < nt := fun j c d _ hd => hds j d hd
  unfold wpOpIn
  simp only [ho]
  rcases g5.run with ⟨hg, tch, h', hd, htc, hups⟩ | ⟨hg, hv, hups⟩
  · rw [goes_sound hpreT hg hgd, if_pos rfl]
    have hr1 : HR C m Z (hHide (hides i) (hAt h0 (fun k => ri.pre.contains k) R)) w := I.step.hr.sub hsub
    have hfree : ∀ b, ri.lo ≤ b → b < ri.hi → m b = none := by
      intro b h1 h2
      refine I.free b (by omega) (by omega) fun x hx hD => ?_
      have hne : x.1 ≠ i := fun e => by rw [e, hDi] at hD; cases hD
      rcases Nat.lt_or_ge x.1 i with hlt | hge
      · have := F.apart hx hmi hlt
        simp only at this
        omega
      · have := F.apart hmi hx (show i < x.1 by omega)
        simp only at this
        omega
    refine dstep_sound hfc horc hr1 hfree g5.le (val_sound hr1 hpreT) hd r K Q fun u w' m' Z' s hu => ?_
    have sw : Step C m Z (hAt h0 D R) n0 w m' Z' (hAt h0 (fun k => D k || k == i) R) nE w' := by
      refine Step.whole I.step.hr hsub s (fun b => tch.contains b) (fun b hb => dstep_touch hd b (by simpa using hb)) (fun b => ?_) g6 g7
      by_cases hb : b ∈ tch
      · rw [if_pos (contains_iff.2 hb)]
        rw [g2, hAt_pass fun x hx hon => ?_]
        · simp only [hAt, beq_self_eq_true, Bool.or_true, if_true, hups, upsAt_map, if_pos hb]
        · have hx' : x ∈ R := by rw [g2]; exact List.mem_append.2 (.inl hx)
          have hgt := g3 x hx
          have hD : D x.1 = true := by
            rw [Bool.or_eq_true] at hon
            rcases hon with h | h
            · exact h
            · have : x.1 = i := by simpa using h
              omega
          refine hinc x hx' (by omega) hD ?_ b (htc b hb)
          cases hp : ri.pre.contains x.1 with
          | false => rfl
          | true => have := g5.lt _ (contains_iff.1 hp); omega
      · rw [if_neg (by rw [contains_iff]; exact hb)]
        refine hAt_congr fun x hx => ?_
        by_cases hxi : x.1 = i
        · right
          have : x = (i, ri) := F.same hx hmi hxi
          rw [this]
          simp only [hups, upsAt_map, if_neg hb]
        · left; simp [hxi]
    refine hK _ w' m' Z' ⟨I.step.within sw, rtNew (sw.rt I.step.hr I.rt) hu, ?_, freeNew s.mnew, clNew⟩
    rw [put_defers]
    exact I.di
  · rw [goes_sound hpreT hg hgd]
    simp only [Bool.false_eq_true, if_false]
    refine ⟨fun _ _ => trivial, ?_⟩
    have eH : hAt h0 (fun k => D k || k == i) R = hAt h0 D R := by
      funext b
      refine hAt_congr fun x hx => ?_
      by_cases hxi : x.1 = i
      · right
        have : x = (i, ri) := F.same hx hmi hxi
        rw [this]
        simp only [hups, upsAt]
      · left; simp [hxi]
    refine hK _ w m Z ⟨by rw [eH]; exact I.step, rtNew I.rt (by rw [hv]; simp only [RV, RVl]; exact ⟨[], rfl, rfl⟩), by rw [put_defers]; exact I.di, freeNew fun b h => .inl h, clNew⟩
theorem At.every (F : Facts C fc ops all T0 h0 hides R n0 nE) (hpw : R.Pairwise fun x y => y.1 < x.1) (hfc : FcOk C fc) (horc : OrcOk C) (hds : dstsOk nt ops) {m0 : AMap} {Z0 : Nat → Prop} {v0 : World} (r : Option Nat) (Q : Exit → Act → World → Prop)
    (hQ : ∀ a' w' m' Z', At C nt w0 T0 h0 R n0 nE m0 Z0 v0 (fun _ => true) m' Z' a' w' → Q .normal a' w') : (fuel : Nat) → (listed : Array Bool) → listed.size = ops.size → listed.toList.count false ≤ fuel → ∀ {m Z a w}, At C nt w0 T0 h0 R n0 nE m0 Z0 v0 (fun k => listed.getD k false) m Z a w →
    wpAnyIn (Fw r) 0 C.P .any ops Q fuel listed a w := by
  have done : ∀ (listed : Array Bool), listed.size = ops.size → Region.ready .any ops listed = [] → ∀ {m Z a w}, At C nt w0 T0 h0 R n0 nE m0 Z0 v0 (fun k => listed.getD k false) m Z a w → Q .normal a w := by
    intro listed hs hrd m Z a w I
    have hall : ∀ j, j < ops.size → listed.getD j false = true := by
      intro j
      induction j using Nat.strongRecOn with
      | ind j ih =>
        intro hj
        obtain ⟨rj, o, A, B, g1, g2, g3, g4, g5, g6, g7, g8⟩ := F.at_ j hj
        cases hl : listed.getD j false with
        | true => rfl
        | false =>
          have : j ∈ Region.ready .any ops listed := by
            rw [mem_ready]
            refine ⟨?_, o, g1, fun e he hb => ?_⟩
            · have hj' : j < listed.size := by omega
              simpa [Array.getD, hj'] using hl
            · have hk : e.on ∈ bindOn o := by
                unfold bindOn
                exact List.mem_map.2 ⟨e, List.mem_filter.2 ⟨by simpa using he, hb⟩, rfl⟩
              have hlt := g5.lt _ (g5.bo _ hk)
              exact ih _ hlt (by omega)
          rw [hrd] at this
          cases this
    have eH : hAt h0 (fun k => listed.getD k false) R = hAt h0 (fun _ => true) R := by
      funext b
      exact hAt_congr fun x hx => .inl (hall _ (F.bd x hx))
    have eT : tAt T0 [] (fun k => listed.getD k false) R = tAt T0 [] (fun _ => true) R := by
      funext t
      exact tAt_congr fun x hx => .inl (hall _ (F.bd x hx))
    exact hQ a w m Z ⟨by rw [← eH]; exact I.step, by rw [← eT]; exact I.rt, I.di, fun b h1 h2 h3 => I.free b h1 h2 fun x hx _ => h3 x hx rfl, fun _ _ _ _ _ => rfl⟩
  intro fuel
  induction fuel with
  | zero =>
    intro listed hs hc m Z a w I
    have hrd : Region.ready .any ops listed = [] := by
      cases hr : Region.ready .any ops listed with
      | nil => rfl
      | cons x l =>
        have hx : x ∈ Region.ready .any ops listed := by rw [hr]; simp
        obtain ⟨h1, o, h2, _⟩ := mem_ready.1 hx
        have hlt : x < listed.size := by rw [hs]; exact (Array.getElem?_eq_some_iff.1 h2).1
        have : false ∈ listed.toList := by
          have h3 : listed[x] = false := by simpa [Array.getD, hlt] using h1
          rw [← h3]; simp
        have := List.count_pos_iff.2 this
        omega
    exact ⟨hrd, done listed hs hrd I⟩
  | succ fuel ih =>
    intro listed hs hc m Z a w I
    refine ⟨fun hrd => done listed hs hrd I, fun i hi => ?_⟩
    obtain ⟨h1, o, h2, h3⟩ := mem_ready.1 hi
    have hlt : i < listed.size := by rw [hs]; exact (Array.getElem?_eq_some_iff.1 h2).1
    have hfi : listed[i] = false := by simpa [Array.getD, hlt] using h1
    refine I.take F hpw hfc horc hds h2 (by simpa [Array.getD, hlt] using hfi) (fun k hk => ?_) r Q _ fun a' w' m' Z' I' => ?_
    · unfold bindOn at hk
      obtain ⟨e, he, rfl⟩ := List.mem_map.1 hk
      rw [List.mem_filter] at he
      exact h3 e (by simpa using he.1) he.2
    · refine ih (listed.setIfInBounds i true) (by simpa using hs) ?_ (m := m') (Z := Z') ?_
      · have : (listed.setIfInBounds i true).toList.count false + 1 = listed.toList.count false := by
          rw [Array.toList_setIfInBounds, List.count_set (by simpa using hlt)]
          have h4 : listed.toList[i]'(by simpa using hlt) = false := by simpa using hfi
          have h5 : 0 < listed.toList.count false := List.count_pos_iff.2 (h4 ▸ List.getElem_mem _)
          simp only [h4]
          simp
          have h6 : 0 < Array.count false listed := by simpa using h5
          omega
        omega
      · have : (fun k => (listed.setIfInBounds i true).getD k false) = fun k => (listed.getD k false || k == i) := by
          funext k
          by_cases hk : i = k
          · subst hk
            simp [hlt]
          · rw [getD_set_ne _ hk]
            simp [Ne.symm hk]
        rw [this]
        exact I'
theorem nodupB_iff {l : List Nat} : nodupB l = true → l.Nodup := by
  induction l with
  | nil => simp
  | cons a l ih =>
    simp only [nodupB, Bool.and_eq_true, Bool.not_eq_true', List.nodup_cons]
    rintro ⟨h1, h2⟩
    exact ⟨by simpa using h1, ih h2⟩
theorem vdraw_facts {nt : Nat} {ops : Array Oper} {s s' : St} (hv : vdraw C fc nt ops s = some s') : ∃ hides R nE, Facts C fc ops (openAt ops) s.T s.h hides R s.n nE ∧ R.Pairwise (fun x y => y.1 < x.1) ∧ s.n ≤ nE ∧
    s' = ⟨tAt s.T [] (fun _ => true) R, hAt s.h (fun _ => true) R, nE⟩ := by
  unfold vdraw at hv
  dsimp only at hv
  split at hv <;> try (cases hv; done)
  rename_i hnd
  split at hv <;> try (cases hv; done)
  rename_i r1 x1 hg1
  split at hv <;> try (cases hv; done)
  rename_i r2 n2 hg2
  split at hv <;> try (cases hv; done)
  rename_i hin
  injection hv with hv
  subst hv
  obtain ⟨q1, ⟨ext, q2, q3⟩, q4⟩ := dgo_spec ops.toList hg2 (by simp) (by simp)
  have hnd' := nodupB_iff hnd
  refine ⟨incs r1, r2, n2, ⟨fun j hj => ?_, fun x hx => ?_, ?_, ?_, ?_⟩, dgo_desc ops.toList hg2 (by simp) (by simp), q1, rfl⟩
  · exact q4 j (Nat.zero_le _) hj
  · rw [q2] at hx
    exact (q3 x (by simpa using hx)).2
  · intro i j o o' t h1 h2 hne hd hd'
    have hp := List.pairwise_filterMap.1 hnd'
    rw [List.pairwise_iff_getElem] at hp
    obtain ⟨l1, e1⟩ := Array.getElem?_eq_some_iff.1 h1
    obtain ⟨l2, e2⟩ := Array.getElem?_eq_some_iff.1 h2
    rcases Nat.lt_or_ge i j with hij | hij
    · exact hp i j (by simpa using l1) (by simpa using l2) hij t (by simpa [e1] using hd) t (by simpa [e2] using hd') rfl
    · exact hp j i (by simpa using l2) (by simpa using l1) (by omega) t (by simpa [e2] using hd') t (by simpa [e1] using hd) rfl
  · intro i o t h1 hd k
    by_cases hk : k ∈ bindOn o
    · exact .inr hk
    · left
      unfold openAt
      rw [contains_iff, List.mem_filterMap]
      obtain ⟨l1, e1⟩ := Array.getElem?_eq_some_iff.1 h1
      refine ⟨o, by rw [← e1]; simp, ?_⟩
      rw [if_neg (by rw [contains_iff]; exact hk)]
      exact hd
  · intro x hx b hb
    rw [List.all_eq_true] at hin
    have := hin x hx
    rw [List.all_eq_true] at this
    exact contains_iff.1 (this b hb)
theorem vdraw_ok (hfc : FcOk C fc) (horc : OrcOk C) (hmix : C.P.follows .mixedOrders = true) : DrOk C (vdraw C fc) := by
  refine ⟨fun nt ops s s' hv => ?_, fun nt ops s s' hv hds id r Q m Z a w hr hT hf hQ => ?_⟩
  · obtain ⟨hides, R, nE, F, hpw, hle, rfl⟩ := vdraw_facts hv
    exact hle
  · obtain ⟨hides, R, nE, F, hpw, hle, rfl⟩ := vdraw_facts hv
    refine wpIn_region_any hmix ?_
    have hsize : ∀ k, (Array.replicate ops.size false).getD k false = false := by
      intro k
      by_cases hk : k < ops.size <;> simp [Array.getD, hk]
    have e0 : hAt s.h (fun k => (Array.replicate ops.size false).getD k false) R = s.h := by
      funext b
      rw [← List.append_nil R, hAt_pass]
      · rfl
      · intro x _ hon
        rw [hsize] at hon; cases hon
    have eT : ∀ t, tAt s.T [] (fun k => (Array.replicate ops.size false).getD k false) R t = s.T t := by
      intro t
      rw [← List.append_nil R, tAt_pass fun x _ => hsize x.1]
      rfl
    have s0 : Step C m Z s.h s.n w m Z s.h s.n { w with drawn := w.drawn + 1 } := Step.drawn hr _
    refine At.every F hpw hfc horc hds (w0 := a.defers) (m0 := m) (Z0 := Z) (v0 := w) r Q (fun a' w' m' Z' I => hQ a' w' m' Z' I.step I.rt I.di) ops.size _ (by simp) ?_ (m := m) (Z := Z) ⟨?_, ?_, ?_, fun b h1 h2 _ => hf b h1 h2, fun x _ hD => by rw [hsize] at hD; cases hD⟩
    · rw [Array.toList_replicate, List.count_replicate]
      simp
    · rw [e0]
      exact { s0 with nle := hle, mnew := fun b e => .inl e }
    · have h1 := s0.rt hr hT
      refine ⟨h1.1, fun t => ?_⟩
      rw [eT t]
      exact h1.2 t
    · rfl
end
end Go.Proofs.Bv
namespace Go.Proofs.Bv
open Go
section
variable {C : Cfg} {m m' : AMap} {Z Z' : Nat → Prop} {h h' : Heap} {n n' : Nat} {w w' : World}
theorem lv_ok (hnn : NoNum C) (horc : OrcOk C) (hmix : C.P.follows .mixedOrders = true) : (k : Nat) → FcOk C (lv C k).fc ∧ FyOk C (lv C k).fy
  | 0 => ⟨fun f args h n v h' n' hv => by simp [lv] at hv, fun l args h n v h' n' hv => by simp [lv] at hv⟩
  | k + 1 =>
    have ih := lv_ok hnn horc hmix k
    ⟨fcall_sound (callOf_ok ih.1 ih.2 horc) ih.1 (vdraw_ok ih.1 horc hmix) hnn, vyield_sound (callOf_ok ih.1 ih.2 horc) ih.1 (vdraw_ok ih.1 horc hmix)⟩
theorem noNum_of (h : (C.P.funcs.all fun f => !(f.name == "runtime.NumGoroutine")) = true) : NoNum C := by
  intro f fn hf
  have := Array.all_eq_true_iff_forall_mem.1 h fn (Array.mem_of_getElem? hf)
  simpa using this
theorem lv_calls (hnn : NoNum C) (horc : OrcOk C) (hmix : C.P.follows .mixedOrders = true) {k : Nat} {f : FuncId} {args : List AV} {v : AV} (hv : (lv C k).fc f args noHeap 0 = some (v, h', n')) {us : List Value} (hr : HR C noMap Z noHeap w) (hus : RVl Z w args noMap us) :
    Calls C.P f us.toArray w fun e w' => ∃ u m' Z', e = .returned u ∧ Step C noMap Z noHeap 0 w m' Z' h' n' w' ∧ RV Z' w' v m' u :=
  callsIn_wide.1 ((lv_ok hnn horc hmix k).1 f args noHeap 0 v h' n' hv (Nat.zero_le _) noMap Z w us hr hus (fun _ _ _ => rfl)).2
end
end Go.Proofs.Bv
namespace Go.Proofs.Bv
open Go
def Le {α : Type} (a b : Option α) : Prop := ∀ x, a = some x → b = some x
theorem Le.refl {α : Type} (a : Option α) : Le a a := fun _ h => h
theorem Le.trans {α : Type} {a b c : Option α} (h : Le a b) (g : Le b c) : Le a c := fun x e => g x (h x e)
theorem Le.none {α : Type} (b : Option α) : Le .none b := fun _ h => by cases h
section
variable {C : Cfg} {call call' : CallF} {fc fc' : FcF} {dr dr' : Nat → Array Oper → St → Option St}
theorem vstep_up (hc : ∀ f as h n, Le (call f as h n) (call' f as h n)) {ρ : Operand → AV} {h : Heap} {n : Nat} {op : Op} : Le (vstep C call ρ h n op) (vstep C call' ρ h n op) := by
  unfold vstep
  split
  · exact hc _ _ _ _
  · exact Le.refl _
theorem vops_up (hc : ∀ f as h n, Le (call f as h n) (call' f as h n)) {nt : Nat} {ops : Array Oper} : (l : List Oper) → {s : St} → Le (vops C call nt ops l s) (vops C call' nt ops l s)
  | [], s => Le.refl _
  | o :: l, s => by
    intro x hv
    simp only [vops] at hv ⊢
    split at hv
    · split at hv <;> try (cases hv; done)
      rename_i v h n hs
      rw [vstep_up hc _ hs]
      simp only
      split at hv <;> try (cases hv; done)
      rename_i hle
      rw [if_pos hle]
      rw [Option.bind_eq_some_iff] at hv ⊢
      obtain ⟨T, h1, h2⟩ := hv
      exact ⟨T, h1, vops_up hc l _ h2⟩
    · rw [Option.bind_eq_some_iff] at hv ⊢
      obtain ⟨T, h1, h2⟩ := hv
      exact ⟨T, h1, vops_up hc l _ h2⟩
    · cases hv
theorem iter_up {f f' : St → Option (Ex × St)} (hf : ∀ s, Le (f s) (f' s)) : {k k' : Nat} → k ≤ k' → {s : St} → Le (iter f k s) (iter f' k' s)
  | 0, _, _, s => by simp only [iter]; exact Le.none _
  | k + 1, 0, h, s => by omega
  | k + 1, k' + 1, h, s => by
    intro x hv
    simp only [iter] at hv ⊢
    split at hv
    · rename_i s1 h1
      rw [hf _ _ h1]
      exact iter_up hf (Nat.le_of_succ_le_succ h) _ hv
    · rename_i hne
      rw [hf _ _ hv]
      obtain ⟨e, s'⟩ := x
      cases e with
      | norm => exact absurd hv (hne s')
      | _ => rfl
theorem vcode_up (hc : ∀ f as h n, Le (call f as h n) (call' f as h n)) (hf : ∀ f as h n, Le (fc f as h n) (fc' f as h n)) (hd : ∀ nt ops s, Le (dr nt ops s) (dr' nt ops s)) {k k' nt : Nat} (hk : k ≤ k') {rd : Bool} : (c : Code) → {s : St} →
    Le (vcode C call fc dr k nt rd c s) (vcode C call' fc' dr' k' nt rd c s)
  | .skip, s | .label _, s => by simp only [vcode]; exact Le.refl _
  | .region _ ops d, s => by
    intro x hv
    simp only [vcode, Option.map_eq_some_iff] at hv ⊢
    obtain ⟨s1, h1, h2⟩ := hv
    refine ⟨s1, ?_, h2⟩
    split at h1
    · rename_i hdr
      rw [if_pos hdr]
      exact hd _ _ _ _ h1
    · rename_i hdr
      rw [if_neg hdr]
      exact vops_up hc _ _ h1
  | .seq a b, s => by
    intro x hv
    simp only [vcode] at hv ⊢
    split at hv
    · rename_i s1 h1
      rw [vcode_up hc hf hd hk a _ h1]
      exact vcode_up hc hf hd hk b _ hv
    · rename_i hne
      rw [vcode_up hc hf hd hk a _ hv]
      obtain ⟨e, s'⟩ := x
      cases e with
      | norm => exact absurd hv (hne s')
      | _ => rfl
  | .cond c a b, s => by
    intro x hv
    simp only [vcode] at hv ⊢
    split at hv
    · rename_i t ht
      split at hv
      · rename_i h1
        rw [if_pos h1]
        exact vcode_up hc hf hd hk a _ hv
      · rename_i h1
        rw [if_neg h1]
        exact vcode_up hc hf hd hk b _ hv
    · cases hv
  | .block id c, s => by
    intro x hv
    simp only [vcode] at hv ⊢
    split at hv
    · rename_i j s1 h1
      rw [vcode_up hc hf hd hk c _ h1]
      exact hv
    · rename_i hne
      rw [vcode_up hc hf hd hk c _ hv]
      obtain ⟨e, s'⟩ := x
      cases e with
      | exit j => exact absurd hv (hne j s')
      | _ => rfl
  | .loop c, s => by
    simp only [vcode]
    exact iter_up (fun s => vcode_up hc hf hd hk c) hk
  | .exit id, s | .ret, s => by simp only [vcode]; exact Le.refl _
  | .rangeFunc g ps as body, s => by
    intro x hv
    simp only [vcode] at hv ⊢
    split at hv
    · cases hv
    · rename_i hrd
      rw [if_neg hrd]
      split at hv
      · rename_i v h n hcl
        split at hcl <;> try (cases hcl; done)
        rename_i f caps hval
        rw [hf _ _ _ _ _ hcl]
        exact hv
      · cases hv
  | .scope _, _ | .goto _, _ | .refuse _, _ => by simp only [vcode]; exact Le.refl _
theorem fcall_up (hc : ∀ f as h n, Le (call f as h n) (call' f as h n)) (hf : ∀ f as h n, Le (fc f as h n) (fc' f as h n)) (hd : ∀ nt ops s, Le (dr nt ops s) (dr' nt ops s)) {k k' : Nat} (hk : k ≤ k') {f : FuncId} {args : List AV} {h : Heap} {n : Nat} :
    Le (fcall C call fc dr k f args h n) (fcall C call' fc' dr' k' f args h n) := by
  intro x hv
  unfold fcall at hv ⊢
  split at hv <;> try (cases hv; done)
  rename_i fn hfn
  split at hv <;> try (cases hv; done)
  rename_i c hcc
  split at hv <;> try (cases hv; done)
  rename_i hok
  rw [if_pos hok]
  split at hv <;> try (cases hv; done)
  · rename_i s hs
    rw [vcode_up hc hf hd hk _ _ hs]
    exact hv
  · rename_i s hs
    rw [vcode_up hc hf hd hk _ _ hs]
    exact hv
theorem vyield_up (hc : ∀ f as h n, Le (call f as h n) (call' f as h n)) (hf : ∀ f as h n, Le (fc f as h n) (fc' f as h n)) (hd : ∀ nt ops s, Le (dr nt ops s) (dr' nt ops s)) {k k' : Nat} (hk : k ≤ k') {l : Nat} {args : List AV} {h : Heap} {n : Nat} :
    Le (vyield C call fc dr k l args h n) (vyield C call' fc' dr' k' l args h n) := by
  intro x hv
  unfold vyield at hv ⊢
  split at hv <;> try (cases hv; done)
  rename_i L hL
  split at hv <;> try (cases hv; done)
  rename_i hok
  rw [if_pos hok]
  split at hv <;> try (cases hv; done)
  rename_i T hT
  split at hv <;> try (cases hv; done)
  rename_i s hs
  rw [vcode_up hc hf hd hk _ _ hs]
  simp only
  split at hv <;> try (cases hv; done)
  rename_i L' hL'
  split at hv <;> try (cases hv; done)
  rename_i hok'
  rw [if_pos hok']
  split at hv <;> try (cases hv; done)
  rename_i e s2 hs2
  rw [vcode_up hc hf hd hk _ _ hs2]
  exact hv
theorem pcall_up (hf : ∀ f as h n, Le (fc f as h n) (fc' f as h n)) {f : FuncId} {args : List AV} : Le (pcall fc f args) (pcall fc' f args) := by
  intro x hv
  unfold pcall at hv ⊢
  split at hv <;> try (cases hv; done)
  rename_i r h n hr
  rw [hf _ _ _ _ _ hr]
  exact hv
theorem anycall_up (hf : ∀ f as h n, Le (fc f as h n) (fc' f as h n)) {f : FuncId} {args : List AV} {h : Heap} {n : Nat} : Le (anycall C fc f args h n) (anycall C fc' f args h n) := by
  intro x hv
  unfold anycall at hv ⊢
  split at hv
  · rename_i r ids htry
    exact hv
  · rename_i htry
    split at hv
    · rename_i hi
      rw [if_pos hi]
      exact hf _ _ _ _ _ hv
    · rename_i hi
      rw [if_neg hi]
      split at hv
      · rename_i as ids hm
        split at hv
        · rename_i ho
          rw [if_pos ho]
          split at hv <;> try (cases hv; done)
          rename_i r h1 n1 hc
          rw [hf _ _ _ _ _ hc]
          exact hv
        · rename_i ho
          rw [if_neg ho]
          split at hv <;> try (cases hv; done)
          rename_i r hr
          rw [pcall_up hf _ hr]
          exact hv
      · exact hf _ _ _ _ _ hv
theorem dcall_up (hf : ∀ f as h n, Le (fc f as h n) (fc' f as h n)) {f : FuncId} {args : List AV} {h : Heap} {n : Nat} : Le (dcall C fc f args h n) (dcall C fc' f args h n) := by
  intro x hv
  unfold dcall at hv ⊢
  split at hv
  · rename_i r ids htry
    exact hv
  · rename_i htry
    split at hv
    · rename_i hi
      rw [if_pos hi]
      split at hv
      · rename_i hp
        rw [if_pos hp]
        split at hv <;> try (cases hv; done)
        rename_i v h1 n1 hc
        rw [hf _ _ _ _ _ hc]
        exact hv
      · rename_i hp
        rw [if_neg hp]
        split at hv <;> try (cases hv; done)
        rename_i v h1 n1 hc
        rw [hf _ _ _ _ _ hc]
        exact hv
    · rename_i hi
      rw [if_neg hi]
      split at hv <;> try (cases hv; done)
      rename_i as ids hm
      split at hv
      · rename_i ho
        rw [if_pos ho]
        split at hv <;> try (cases hv; done)
        rename_i r h1 n1 hc
        rw [hf _ _ _ _ _ hc]
        exact hv
      · rename_i ho
        rw [if_neg ho]
        split at hv <;> try (cases hv; done)
        rename_i r hr
        rw [pcall_up hf _ hr]
        exact hv
theorem dstep_up (hf : ∀ f as h n, Le (fc f as h n) (fc' f as h n)) {ρ : Operand → AV} {h : Heap} {n : Nat} {op : Op} : Le (dstep C fc ρ h n op) (dstep C fc' ρ h n op) := by
  intro x hv
  unfold dstep at hv ⊢
  split at hv
  · split at hv <;> try (cases hv; done)
    exact dcall_up hf _ hv
  · exact hv
theorem dgo_up (hf : ∀ f as h n, Le (fc f as h n) (fc' f as h n)) {ops : Array Oper} {all : Nat → List Nat} {T0 : Nat → AV} {h0 : Heap} {hides : Nat → List Nat} : (l : List Oper) → {i : Nat} → {recs : Recs} → {n : Nat} →
    Le (dgo C fc ops all T0 h0 hides l i recs n) (dgo C fc' ops all T0 h0 hides l i recs n)
  | [], i, recs, n => by simp only [dgo]; exact Le.refl _
  | o :: l, i, recs, n => by
    intro x hv
    simp only [dgo] at hv ⊢
    split at hv <;> try (cases hv; done)
    rename_i hb
    rw [if_pos hb]
    split at hv
    · rename_i hg
      split at hv <;> try (cases hv; done)
      rename_i v tch h' n' hs
      rw [dstep_up hf _ hs]
      simp only
      split at hv <;> try (cases hv; done)
      rename_i hc
      rw [if_pos hc]
      exact dgo_up hf l _ hv
    · exact dgo_up hf l _ hv
    · cases hv
theorem vdraw_up (hf : ∀ f as h n, Le (fc f as h n) (fc' f as h n)) {nt : Nat} {ops : Array Oper} {s : St} : Le (vdraw C fc nt ops s) (vdraw C fc' nt ops s) := by
  intro x hv
  unfold vdraw at hv ⊢
  dsimp only at hv ⊢
  split at hv <;> try (cases hv; done)
  rename_i hn
  rw [if_pos hn]
  split at hv <;> try (cases hv; done)
  rename_i r1 x1 h1
  rw [dgo_up hf _ _ h1]
  simp only
  split at hv <;> try (cases hv; done)
  rename_i r2 n2 h2
  rw [dgo_up hf _ _ h2]
  exact hv
theorem callOf_up {L L' : Lv} (hf : ∀ f as h n, Le (L.fc f as h n) (L'.fc f as h n)) (hy : ∀ l as h n, Le (L.fy l as h n) (L'.fy l as h n)) (f : AV) (as : List AV) (h : Heap) (n : Nat) : Le (callOf C L f as h n) (callOf C L' f as h n) := by
  unfold callOf
  split
  · exact anycall_up hf
  · exact hy _ _ _ _
  · exact Le.refl _
theorem lv_up1 : (k : Nat) → (∀ f as h n, Le ((lv C k).fc f as h n) ((lv C (k + 1)).fc f as h n)) ∧ (∀ l as h n, Le ((lv C k).fy l as h n) ((lv C (k + 1)).fy l as h n))
  | 0 => ⟨fun _ _ _ _ => Le.none _, fun _ _ _ _ => Le.none _⟩
  | k + 1 =>
    have ih := lv_up1 k
    ⟨fun _ _ _ _ => fcall_up (callOf_up ih.1 ih.2) ih.1 (fun _ _ _ => vdraw_up ih.1) (Nat.le_succ _), fun _ _ _ _ => vyield_up (callOf_up ih.1 ih.2) ih.1 (fun _ _ _ => vdraw_up ih.1) (Nat.le_succ _)⟩
theorem lv_up {k k' : Nat} (h : k ≤ k') : (∀ f as h n, Le ((lv C k).fc f as h n) ((lv C k').fc f as h n)) ∧ (∀ l as h n, Le ((lv C k).fy l as h n) ((lv C k').fy l as h n)) := by
  induction h with
  | refl => exact ⟨fun _ _ _ _ => Le.refl _, fun _ _ _ _ => Le.refl _⟩
  | step _ ih => exact ⟨fun f as h n => (ih.1 f as h n).trans ((lv_up1 _).1 f as h n), fun f as h n => (ih.2 f as h n).trans ((lv_up1 _).2 f as h n)⟩
noncomputable def vc (C : Cfg) (k nt : Nat) (rd : Bool) (c : Code) (s : St) : Option (Ex × St) := vcode C (callOf C (lv C k)) (lv C k).fc (vdraw C (lv C k).fc) k nt rd c s
theorem vc_up {k k' : Nat} (h : k ≤ k') {nt : Nat} {rd : Bool} {c : Code} {s : St} : Le (vc C k nt rd c s) (vc C k' nt rd c s) :=
  vcode_up (callOf_up (lv_up h).1 (lv_up h).2) (lv_up h).1 (fun _ _ _ => vdraw_up (lv_up h).1) h c
end
end Go.Proofs.Bv
namespace Go.Proofs.Bv
open Go
theorem frz_pur (h : Heap) (k : Nat) {a : AV} (hp : a.pur = true) : frz h (k + 1) a = some (a, []) := by simp [frz, hp]
theorem mapF_purs (h : Heap) (k : Nat) : {l : List AV} → purs l = true → mapF (frz h (k + 1)) l = some (l, [])
  | [], _ => rfl
  | a :: l, hp => by
    simp only [purs, Bool.and_eq_true] at hp
    simp [mapF, frz_pur h k hp.1, mapF_purs h k hp.2]
theorem shut_nil (h : Heap) : shutIds h [] = h := by funext b; simp [shutIds]
theorem call_pure {C : Cfg} {L : Lv} {f : FuncId} {args : List AV} {r : AV} {h : Heap} {n : Nat} (hi : (C.inl f || C.own f) = false) (ho : C.orc f = none) (hp : purs args = true) (hb : args.all noBox = true) (he : pcall L.fc f args = some r) :
    callOf C L (.fn (.func f) []) args h n = some (r, h, n) := by
  obtain ⟨hi, hown⟩ := orF hi
  simp only [callOf, anycall, orcTry, ho, hi, hown, List.append_nil, hb, if_true, mapF_purs h 63 hp, ho, he, shut_nil, Bool.false_eq_true, if_false, ite_self]
theorem lv_fc {C : Cfg} {k : Nat} : (lv C (k + 1)).fc = fcall C (callOf C (lv C k)) (lv C k).fc (vdraw C (lv C k).fc) k := rfl
end Go.Proofs.Bv
namespace Go.Proofs.Bv
open Go
section
variable {C : Cfg} {nt : Nat} {rd : Bool} {s : St} {h : Heap} {n : Nat}
def Wc (C : Cfg) (nt : Nat) (rd : Bool) (c : Code) (s : St) (Q : Ex → St → Prop) : Prop := ∃ k e s', vc C k nt rd c s = some (e, s') ∧ Q e s'
def Wo (C : Cfg) (nt : Nat) (ops : Array Oper) (l : List Oper) (s : St) (Q : St → Prop) : Prop := ∃ k s', vops C (callOf C (lv C k)) nt ops l s = some s' ∧ Q s'
def Ws (C : Cfg) (op : Op) (ρ : Operand → AV) (h : Heap) (n : Nat) (Q : AV → Heap → Nat → Prop) : Prop := ∃ k v h' n', vstep C (callOf C (lv C k)) ρ h n op = some (v, h', n') ∧ Q v h' n'
def Wk (C : Cfg) (f : AV) (args : List AV) (h : Heap) (n : Nat) (Q : AV → Heap → Nat → Prop) : Prop := ∃ k v h' n', callOf C (lv C k) f args h n = some (v, h', n') ∧ Q v h' n'
def Wf (C : Cfg) (f : FuncId) (args : List AV) (h : Heap) (n : Nat) (Q : AV → Heap → Nat → Prop) : Prop := ∃ k v h' n', (lv C k).fc f args h n = some (v, h', n') ∧ Q v h' n'
def Pc (C : Cfg) (f : FuncId) (args : List AV) (r : AV) : Prop := ∃ k, pcall (lv C k).fc f args = some r
def Oq (o : Out) (Q : AV → Heap → Nat → Prop) : Prop := match o with | some (v, h, n) => Q v h n | none => False
theorem Oq_some {v : AV} {Q : AV → Heap → Nat → Prop} : Oq (some (v, h, n)) Q = Q v h n := rfl
theorem Oq_none {Q : AV → Heap → Nat → Prop} : Oq none Q = False := rfl
def onNorm (K : St → Prop) (Q : Ex → St → Prop) : Ex → St → Prop
  | .norm, s => K s
  | .exit id, s => Q (.exit id) s
  | .ret, s => Q .ret s
theorem onNorm_norm {K : St → Prop} {Q : Ex → St → Prop} : onNorm K Q .norm s = K s := rfl
theorem onNorm_exit {K : St → Prop} {Q : Ex → St → Prop} {id : Nat} : onNorm K Q (.exit id) s = Q (.exit id) s := rfl
theorem onNorm_ret {K : St → Prop} {Q : Ex → St → Prop} : onNorm K Q .ret s = Q .ret s := rfl
def onExit (id : Nat) (Q : Ex → St → Prop) : Ex → St → Prop
  | .exit j, s => Q (if j = id then .norm else .exit j) s
  | .norm, s => Q .norm s
  | .ret, s => Q .ret s
theorem onExit_norm {Q : Ex → St → Prop} {id : Nat} : onExit id Q .norm s = Q .norm s := rfl
theorem onExit_exit {Q : Ex → St → Prop} {id j : Nat} : onExit id Q (.exit j) s = Q (if j = id then .norm else .exit j) s := rfl
theorem onExit_ret {Q : Ex → St → Prop} {id : Nat} : onExit id Q .ret s = Q .ret s := rfl
theorem Wc_mono {c : Code} {Q Q' : Ex → St → Prop} (hq : ∀ e s, Q e s → Q' e s) (hw : Wc C nt rd c s Q) : Wc C nt rd c s Q' := by
  obtain ⟨k, e, s', h1, h2⟩ := hw
  exact ⟨k, e, s', h1, hq _ _ h2⟩
theorem Wc_skip {Q : Ex → St → Prop} : Wc C nt rd .skip s Q ↔ Q .norm s := by
  constructor
  · rintro ⟨k, e, s', h1, h2⟩
    simp only [vc, vcode, Option.some.injEq, Prod.mk.injEq] at h1
    obtain ⟨rfl, rfl⟩ := h1
    exact h2
  · exact fun h => ⟨0, .norm, s, by simp [vc, vcode], h⟩
theorem Wc_label {Q : Ex → St → Prop} {i : Nat} : Wc C nt rd (.label i) s Q ↔ Q .norm s := by
  constructor
  · rintro ⟨k, e, s', h1, h2⟩
    simp only [vc, vcode, Option.some.injEq, Prod.mk.injEq] at h1
    obtain ⟨rfl, rfl⟩ := h1
    exact h2
  · exact fun h => ⟨0, .norm, s, by simp [vc, vcode], h⟩
theorem Wc_exit {Q : Ex → St → Prop} {id : Nat} : Wc C nt rd (.exit id) s Q ↔ Q (.exit id) s := by
  constructor
  · rintro ⟨k, e, s', h1, h2⟩
    simp only [vc, vcode, Option.some.injEq, Prod.mk.injEq] at h1
    obtain ⟨rfl, rfl⟩ := h1
    exact h2
  · exact fun h => ⟨0, .exit id, s, by simp [vc, vcode], h⟩
theorem Wc_ret {Q : Ex → St → Prop} : Wc C nt rd .ret s Q ↔ Q .ret s := by
  constructor
  · rintro ⟨k, e, s', h1, h2⟩
    simp only [vc, vcode, Option.some.injEq, Prod.mk.injEq] at h1
    obtain ⟨rfl, rfl⟩ := h1
    exact h2
  · exact fun h => ⟨0, .ret, s, by simp [vc, vcode], h⟩
theorem Wc_seq {a b : Code} {Q : Ex → St → Prop} : Wc C nt rd (.seq a b) s Q ↔ Wc C nt rd a s (onNorm (fun s => Wc C nt rd b s Q) Q) := by
  constructor
  · rintro ⟨k, e, s', h1, h2⟩
    unfold vc at h1
    simp only [vcode] at h1
    split at h1
    · rename_i s1 h3
      exact ⟨k, .norm, s1, h3, k, e, s', h1, h2⟩
    · rename_i hne
      refine ⟨k, e, s', h1, ?_⟩
      cases e with
      | norm => exact absurd h1 (hne s')
      | _ => exact h2
  · rintro ⟨k, e, s', h1, h2⟩
    cases e with
    | norm =>
      obtain ⟨k2, e2, s2, h3, h4⟩ := h2
      refine ⟨max k k2, e2, s2, ?_, h4⟩
      have g1 := vc_up (Nat.le_max_left k k2) _ h1
      have g2 := vc_up (Nat.le_max_right k k2) _ h3
      unfold vc at g1 g2 ⊢
      simp only [vcode, g1, g2]
    | exit id =>
      refine ⟨k, .exit id, s', ?_, h2⟩
      unfold vc at h1 ⊢
      simp only [vcode, h1]
    | ret =>
      refine ⟨k, .ret, s', ?_, h2⟩
      unfold vc at h1 ⊢
      simp only [vcode, h1]
def Wb (a : AV) (A B : Prop) : Prop := match a with | .sc (.bool t) => if t then A else B | _ => False
theorem Wb_true {A B : Prop} : Wb (.sc (.bool true)) A B = A := rfl
theorem Wb_false {A B : Prop} : Wb (.sc (.bool false)) A B = B := rfl
theorem Wb_bool {t : Bool} {A B : Prop} : Wb (.sc (.bool t)) A B ↔ (t = true → A) ∧ (t = false → B) := by cases t <;> simp [Wb]
theorem Wc_cond {c : Operand} {a b : Code} {Q : Ex → St → Prop} : Wc C nt rd (.cond c a b) s Q ↔ Wb (val C s.T c) (Wc C nt rd a s Q) (Wc C nt rd b s Q) := by
  have e : ∀ k, vc C k nt rd (.cond c a b) s = match val C s.T c with
      | .sc (.bool t) => if t then vc C k nt rd a s else vc C k nt rd b s
      | _ => none := by
    intro k
    unfold vc
    simp only [vcode]
    rfl
  unfold Wb Wc
  simp only [e]
  generalize val C s.T c = x
  split
  · rename_i t
    cases t <;> simp
  · rename_i hne
    simp only [iff_false, not_exists, not_and]
    intro k e s' h1
    cases h1
theorem Wc_block {id : Nat} {c : Code} {Q : Ex → St → Prop} : Wc C nt rd (.block id c) s Q ↔ Wc C nt rd c s (onExit id Q) := by
  constructor
  · rintro ⟨k, e, s', h1, h2⟩
    unfold vc at h1
    simp only [vcode] at h1
    split at h1
    · rename_i j s1 h3
      injection h1 with h1; injection h1 with h4 h5; subst h5
      refine ⟨k, .exit j, s1, h3, ?_⟩
      rw [onExit_exit, h4]; exact h2
    · rename_i hne
      refine ⟨k, e, s', h1, ?_⟩
      cases e with
      | exit j => exact absurd h1 (hne j s')
      | _ => exact h2
  · rintro ⟨k, e, s', h1, h2⟩
    cases e with
    | exit j =>
      refine ⟨k, _, s', ?_, h2⟩
      unfold vc at h1 ⊢
      simp only [vcode, h1]
    | norm =>
      refine ⟨k, .norm, s', ?_, h2⟩
      unfold vc at h1 ⊢
      simp only [vcode, h1]
    | ret =>
      refine ⟨k, .ret, s', ?_, h2⟩
      unfold vc at h1 ⊢
      simp only [vcode, h1]
theorem Wc_loop {c : Code} {Q : Ex → St → Prop} : Wc C nt rd (.loop c) s Q ↔ Wc C nt rd c s (onNorm (fun s => Wc C nt rd (.loop c) s Q) Q) := by
  constructor
  · rintro ⟨k, e, s', h1, h2⟩
    have h0 : iter (vc C k nt rd c) k s = some (e, s') := by
      unfold vc at h1
      simp only [vcode] at h1
      exact h1
    cases k with
    | zero => simp [iter] at h0
    | succ k =>
      simp only [iter] at h0
      split at h0
      · rename_i s1 h3
        refine ⟨k + 1, .norm, s1, h3, k + 1, e, s', ?_, h2⟩
        have := iter_up (fun s => Le.refl (vc C (k + 1) nt rd c s)) (Nat.le_succ k) _ h0
        unfold vc
        simp only [vcode]
        exact this
      · rename_i hne
        refine ⟨k + 1, e, s', h0, ?_⟩
        cases e with
        | norm => exact absurd h0 (hne s')
        | _ => exact h2
  · rintro ⟨k, e, s', h1, h2⟩
    cases e with
    | norm =>
      obtain ⟨k2, e2, s2, h3, h4⟩ := h2
      refine ⟨max k k2 + 1, e2, s2, ?_, h4⟩
      have g1 := vc_up (show k ≤ max k k2 + 1 by omega) _ h1
      have h5 : iter (vc C k2 nt rd c) k2 s' = some (e2, s2) := by
        unfold vc at h3
        simp only [vcode] at h3
        exact h3
      have g2 := iter_up (f' := vc C (max k k2 + 1) nt rd c) (fun s => vc_up (show k2 ≤ max k k2 + 1 by omega)) (show k2 ≤ max k k2 by omega) _ h5
      have : iter (vc C (max k k2 + 1) nt rd c) (max k k2 + 1) s = some (e2, s2) := by
        simp only [iter, g1]
        exact g2
      unfold vc
      simp only [vcode]
      exact this
    | exit id =>
      refine ⟨k + 1, .exit id, s', ?_, h2⟩
      have g1 := vc_up (Nat.le_succ k) _ h1
      have : iter (vc C (k + 1) nt rd c) (k + 1) s = some (.exit id, s') := by simp only [iter]; rw [g1]
      unfold vc
      simp only [vcode]
      exact this
    | ret =>
      refine ⟨k + 1, .ret, s', ?_, h2⟩
      have g1 := vc_up (Nat.le_succ k) _ h1
      have : iter (vc C (k + 1) nt rd c) (k + 1) s = some (.ret, s') := by simp only [iter]; rw [g1]
      unfold vc
      simp only [vcode]
      exact this
theorem Wc_region {id : Nat} {ops : Array Oper} {Q : Ex → St → Prop} : Wc C nt rd (.region id ops false) s Q ↔ Wo C nt ops ops.toList s (Q .norm) := by
  constructor
  · rintro ⟨k, e, s', h1, h2⟩
    unfold vc at h1
    simp only [vcode, Option.map_eq_some_iff] at h1
    obtain ⟨s1, h3, h4⟩ := h1
    injection h4 with h4 h5
    subst h4 h5
    exact ⟨k, s1, by simpa using h3, h2⟩
  · rintro ⟨k, s', h1, h2⟩
    refine ⟨k, .norm, s', ?_, h2⟩
    unfold vc
    simp only [vcode, Bool.false_eq_true, if_false, h1, Option.map_some]
theorem Wo_nil {ops : Array Oper} {Q : St → Prop} : Wo C nt ops [] s Q ↔ Q s := by
  unfold Wo
  simp [vops]
def Wp' (o : Option (Nat → AV)) (K : (Nat → AV) → Prop) : Prop := match o with | some T => K T | none => False
theorem Wp'_some {T : Nat → AV} {K : (Nat → AV) → Prop} : Wp' (some T) K = K T := rfl
def Wg (g : Option Bool) (A B : Prop) : Prop := match g with | some true => A | some false => B | none => False
theorem Wg_true {A B : Prop} : Wg (some true) A B = A := rfl
theorem Wg_false {A B : Prop} : Wg (some false) A B = B := rfl
theorem Wo_cons {ops : Array Oper} {o : Oper} {l : List Oper} {Q : St → Prop} : Wo C nt ops (o :: l) s Q ↔
    Wg (goes ops s.T o) (Ws C o.op (val C s.T) s.h s.n fun v h n => s.n ≤ n ∧ Wp' (putT nt s.T o.dst v) fun T => Wo C nt ops l ⟨T, h, n⟩ Q)
      (Wp' (putT nt s.T o.dst (.tup [])) fun T => Wo C nt ops l ⟨T, s.h, s.n⟩ Q) := by
  constructor
  · rintro ⟨k, s', h1, h2⟩
    simp only [vops] at h1
    split at h1
    · rename_i hg
      rw [hg, Wg_true]
      split at h1 <;> try (cases h1; done)
      rename_i v h n hs
      split at h1 <;> try (cases h1; done)
      rename_i hle
      rw [Option.bind_eq_some_iff] at h1
      obtain ⟨T, hp, h1⟩ := h1
      refine ⟨k, v, h, n, hs, hle, ?_⟩
      rw [hp]
      exact ⟨k, s', h1, h2⟩
    · rename_i hg
      rw [hg, Wg_false]
      rw [Option.bind_eq_some_iff] at h1
      obtain ⟨T, hp, h1⟩ := h1
      rw [hp]
      exact ⟨k, s', h1, h2⟩
    · cases h1
  · intro hw
    unfold Wg at hw
    split at hw
    · rename_i hg
      obtain ⟨k, v, h, n, hs, hle, hw⟩ := hw
      unfold Wp' at hw
      split at hw <;> try (exact hw.elim)
      rename_i T hp
      obtain ⟨k2, s', h1, h2⟩ := hw
      refine ⟨max k k2, s', ?_, h2⟩
      have g1 := vstep_up (C := C) (callOf_up (lv_up (Nat.le_max_left k k2)).1 (lv_up (Nat.le_max_left k k2)).2) _ hs
      have g2 := vops_up (C := C) (callOf_up (lv_up (Nat.le_max_right k k2)).1 (lv_up (Nat.le_max_right k k2)).2) _ _ h1
      simp only [vops, hg, g1, if_pos hle, hp, Option.bind_some, g2]
    · rename_i hg
      unfold Wp' at hw
      split at hw <;> try (exact hw.elim)
      rename_i T hp
      obtain ⟨k2, s', h1, h2⟩ := hw
      refine ⟨k2, s', ?_, h2⟩
      simp only [vops, hg, hp, Option.bind_some, h1]
    · exact hw.elim
theorem Ws_call {f : Operand} {args : Array Operand} {ts : Array TypeId} {ρ : Operand → AV} {Q : AV → Heap → Nat → Prop} : Ws C (.call { callee := .value f, args := args, argTypes := ts }) ρ h n Q ↔ Wk C (ρ f) (args.toList.map ρ) h n Q := by
  unfold Ws Wk
  rfl
theorem Ws_vop {op : Op} (hop : ∀ f as ts, op ≠ .call { callee := .value f, args := as, argTypes := ts }) {ρ : Operand → AV} {Q : AV → Heap → Nat → Prop} : Ws C op ρ h n Q ↔ Oq (vop C.P ρ h n op) Q := by
  have e : ∀ k, vstep C (callOf C (lv C k)) ρ h n op = vop C.P ρ h n op := by
    intro k
    unfold vstep
    split
    · rename_i f args ts
      exact absurd rfl (hop f args ts)
    · rfl
  unfold Ws
  simp only [e, exists_const]
  unfold Oq
  generalize vop C.P ρ h n op = x
  split
  · rename_i v h' n'
    constructor
    · rintro ⟨v1, h1, n1, e1, e2⟩
      injection e1 with e1; injection e1 with e1 e3; injection e3 with e3 e4
      subst e1; subst e3; subst e4
      exact e2
    · intro e2
      exact ⟨v, h', n', rfl, e2⟩
  · simp
def Wr (C : Cfg) (rs : Array ResultVar) (Q : AV → Heap → Nat → Prop) : Ex → St → Prop
  | .norm, s | .ret, s => match retsA C s.T s.h rs.toList with | some vs => Q (one1 vs) s.h s.n | none => False
  | .exit _, _ => False
theorem Wf_enter {f : FuncId} {fn : Func} {c : Code} (hf : C.P.funcs[f]? = some fn) (hc : fn.body = some c) (hok : codeOk fn.ntmps c = true) {args : List AV} (ha : args.length ≤ fn.ntmps) {Q : AV → Heap → Nat → Prop} :
    Wf C f args h n Q ↔ Wc C fn.ntmps false c ⟨argsT args, h, n⟩ (Wr C fn.results Q) := by
  have e : ∀ k, (lv C (k + 1)).fc f args h n = match vc C k fn.ntmps false c ⟨argsT args, h, n⟩ with
      | some (.norm, s) | some (.ret, s) => (retsA C s.T s.h fn.results.toList).map fun vs => (one1 vs, s.h, s.n)
      | _ => none := by
    intro k
    show fcall C _ _ _ k f args h n = _
    unfold fcall
    rw [hf]
    simp only [hc]
    rw [if_pos ⟨ha, hok⟩]
    rfl
  constructor
  · rintro ⟨k, v, h', n', h1, h2⟩
    cases k with
    | zero => simp [lv] at h1
    | succ k =>
      rw [e] at h1
      split at h1
      · rename_i s1 hs
        refine ⟨k, .norm, s1, hs, ?_⟩
        rw [Option.map_eq_some_iff] at h1
        obtain ⟨vs, h3, h4⟩ := h1
        injection h4 with h4 h5; injection h5 with h5 h6; subst h4; subst h5; subst h6
        simp only [Wr, h3]
        exact h2
      · rename_i s1 hs
        refine ⟨k, .ret, s1, hs, ?_⟩
        rw [Option.map_eq_some_iff] at h1
        obtain ⟨vs, h3, h4⟩ := h1
        injection h4 with h4 h5; injection h5 with h5 h6; subst h4; subst h5; subst h6
        simp only [Wr, h3]
        exact h2
      · cases h1
  · rintro ⟨k, ex, s1, h1, h2⟩
    cases ex with
    | exit id => exact h2.elim
    | norm =>
      simp only [Wr] at h2
      split at h2 <;> try (exact h2.elim)
      rename_i vs hvs
      refine ⟨k + 1, one1 vs, s1.h, s1.n, ?_, h2⟩
      rw [e, h1]
      simp only [hvs, Option.map_some]
    | ret =>
      simp only [Wr] at h2
      split at h2 <;> try (exact h2.elim)
      rename_i vs hvs
      refine ⟨k + 1, one1 vs, s1.h, s1.n, ?_, h2⟩
      rw [e, h1]
      simp only [hvs, Option.map_some]
theorem Pc_iff {f : FuncId} {args : List AV} {r : AV} : Pc C f args r ↔ Wf C f args noHeap 0 fun v h _ => (frz h 64 v).map (·.1) = some r := by
  unfold Pc pcall
  constructor
  · rintro ⟨k, e⟩
    split at e
    · rename_i v h n hv
      exact ⟨k, v, h, n, hv, e⟩
    · cases e
  · rintro ⟨k, v, h, n, hv, e⟩
    refine ⟨k, ?_⟩
    rw [hv]
    exact e
theorem Pc_det {f : FuncId} {args : List AV} {r r' : AV} (h1 : Pc C f args r) (h2 : Pc C f args r') : r = r' := by
  obtain ⟨k1, e1⟩ := h1
  obtain ⟨k2, e2⟩ := h2
  have g1 := pcall_up (lv_up (Nat.le_max_left k1 k2)).1 _ e1
  have g2 := pcall_up (lv_up (Nat.le_max_right k1 k2)).1 _ e2
  rw [g1] at g2
  injection g2
theorem Wk_pure {f : FuncId} {args caps : List AV} {r : AV} (hi : (C.inl f || C.own f) = false) (ho : C.orc f = none) (hp : purs (args ++ caps) = true) (hb : (args ++ caps).all noBox = true) (hc : Pc C f (args ++ caps) r) {Q : AV → Heap → Nat → Prop} :
    Wk C (.fn (.func f) caps) args h n Q ↔ Q r h n := by
  obtain ⟨hi, hown⟩ := orF hi
  have e : ∀ k, callOf C (lv C k) (.fn (.func f) caps) args h n = match pcall (lv C k).fc f (args ++ caps) with | some r => some (r, h, n) | none => none := by
    intro k
    simp only [callOf, anycall, orcTry, ho, hi, hown, hb, if_true, mapF_purs h 63 hp, ho, shut_nil, Bool.false_eq_true, if_false, ite_self]
    cases pcall (lv C k).fc f (args ++ caps) <;> rfl
  constructor
  · rintro ⟨k, v, h', n', h1, h2⟩
    rw [e] at h1
    split at h1
    · rename_i r' hr'
      injection h1 with h1; injection h1 with h3 h4; injection h4 with h4 h5; subst h3; subst h4; subst h5
      rw [Pc_det hc ⟨k, hr'⟩]
      exact h2
    · cases h1
  · intro hq
    obtain ⟨k, hk⟩ := hc
    refine ⟨k, r, h, n, ?_, hq⟩
    rw [e, hk]
theorem orcTry_none {f : FuncId} {args : List AV} (ho : C.orc f = none) : orcTry C f args h = none := by simp [orcTry, ho]
theorem Wk_inl {f : FuncId} {args caps : List AV} (hi : C.inl f = true) (ho : orcTry C f (args ++ caps) h = none) {Q : AV → Heap → Nat → Prop} : Wk C (.fn (.func f) caps) args h n Q ↔ Wf C f (args ++ caps) h n Q := by
  have e : ∀ k, callOf C (lv C k) (.fn (.func f) caps) args h n = (lv C k).fc f (args ++ caps) h n := by
    intro k
    simp only [callOf, anycall, ho, hi, if_true]
  unfold Wk Wf
  simp only [e]
end
end Go.Proofs.Bv
namespace Go.Proofs.Bv
open Go
section
variable {C : Cfg} {nt : Nat} {rd : Bool} {s : St} {h : Heap} {n : Nat}
theorem upd_ap {α : Type} (f : Nat → α) (i : Nat) (v : α) (j : Nat) : upd f i v j = if j = i then v else f j := rfl
theorem Wc_loop_inv {c : Code} {Q : Ex → St → Prop} (I : Nat → St → Prop) (hs : ∀ m s, I m s → Wc C nt rd c s (onNorm (fun s' => ∃ m', m' < m ∧ I m' s') Q)) : ∀ m s, I m s → Wc C nt rd (.loop c) s Q := by
  intro m
  induction m using Nat.strongRecOn with
  | ind m ih =>
    intro s hI
    rw [Wc_loop]
    refine Wc_mono ?_ (hs m s hI)
    intro e s' h
    cases e with
    | norm => obtain ⟨m', h1, h2⟩ := h; exact ih m' h1 s' h2
    | exit id => exact h
    | ret => exact h
structure Gc (C : Cfg) (nt : Nat) (rd : Bool) (c : Code) (s : St) (Q : Ex → St → Prop) : Prop where
  go : Wc C nt rd c s Q
structure Gw (C : Cfg) (nt : Nat) (ops : Array Oper) (l : List Oper) (s : St) (Q : St → Prop) : Prop where
  go : Wo C nt ops l s Q
structure Gf (C : Cfg) (f : FuncId) (args : List AV) (h : Heap) (n : Nat) (Q : AV → Heap → Nat → Prop) : Prop where
  go : Wf C f args h n Q
theorem Gc_eq : @Gc = @Wc := by
  funext C nt rd c s Q
  exact propext ⟨fun h => h.go, fun h => ⟨h⟩⟩
theorem Gw_eq : @Gw = @Wo := by
  funext C nt ops l s Q
  exact propext ⟨fun h => h.go, fun h => ⟨h⟩⟩
theorem Gf_eq : @Gf = @Wf := by
  funext C f args h n Q
  exact propext ⟨fun h => h.go, fun h => ⟨h⟩⟩
theorem Gc_loop_inv {c : Code} {Q : Ex → St → Prop} (I : Nat → St → Prop) (hs : ∀ m s, I m s → Gc C nt rd c s (onNorm (fun s' => ∃ m', m' < m ∧ I m' s') Q)) (m : Nat) (s : St) (h : I m s) : Gc C nt rd (.loop c) s Q :=
  ⟨Wc_loop_inv I (fun m s h => (hs m s h).go) m s h⟩
theorem Wo_putT_some {T : Nat → AV} {d : Nat} {v : AV} {K : (Nat → AV) → Prop} (hd : d < nt) : Wp' (putT nt T (some d) v) K = K (upd T d v) := by
  simp only [putT, if_pos hd, Wp'_some]
theorem Wo_putT_none {T : Nat → AV} {v : AV} {K : (Nat → AV) → Prop} : Wp' (putT nt T none v) K = K T := rfl
theorem Wo_putT_lit {T : Nat → AV} {d : Nat} {v : AV} {K : (Nat → AV) → Prop} (hd : decide (d < nt) = true) : Wp' (putT nt T (some d) v) K = K (upd T d v) := Wo_putT_some (of_decide_eq_true hd)
theorem st_seq {a b : Code} {Q : Ex → St → Prop} (hw : Gc C nt rd a s (onNorm (fun s => Gc C nt rd b s Q) Q)) : Gc C nt rd (.seq a b) s Q := by
  try simp only [Gc_eq, Gw_eq, Gf_eq] at *
  exact Wc_seq.2 hw
theorem st_region {id : Nat} {ops : Array Oper} {Q : Ex → St → Prop} (hw : Gw C nt ops ops.toList s (Q .norm)) : Gc C nt rd (.region id ops false) s Q := by
  try simp only [Gc_eq, Gw_eq, Gf_eq] at *
  exact Wc_region.2 hw
theorem st_nil {ops : Array Oper} {Q : St → Prop} (hw : Q s) : Gw C nt ops [] s Q := by
  try simp only [Gc_eq, Gw_eq, Gf_eq] at *
  exact Wo_nil.2 hw
theorem st_skip {Q : Ex → St → Prop} (hw : Q .norm s) : Gc C nt rd .skip s Q := by
  try simp only [Gc_eq, Gw_eq, Gf_eq] at *
  exact Wc_skip.2 hw
theorem st_exit {id : Nat} {Q : Ex → St → Prop} (hw : Q (.exit id) s) : Gc C nt rd (.exit id) s Q := by
  try simp only [Gc_eq, Gw_eq, Gf_eq] at *
  exact Wc_exit.2 hw
theorem st_ret {Q : Ex → St → Prop} (hw : Q .ret s) : Gc C nt rd .ret s Q := by
  try simp only [Gc_eq, Gw_eq, Gf_eq] at *
  exact Wc_ret.2 hw
theorem st_block {id : Nat} {c : Code} {Q : Ex → St → Prop} (hw : Gc C nt rd c s (onExit id Q)) : Gc C nt rd (.block id c) s Q := by
  try simp only [Gc_eq, Gw_eq, Gf_eq] at *
  exact Wc_block.2 hw
theorem st_onNormN {K : St → Prop} {Q : Ex → St → Prop} (hw : K s) : onNorm K Q .norm s := by
  try simp only [Gc_eq, Gw_eq, Gf_eq] at *
  exact hw
theorem st_onNormE {K : St → Prop} {Q : Ex → St → Prop} {id : Nat} (hw : Q (.exit id) s) : onNorm K Q (.exit id) s := by
  try simp only [Gc_eq, Gw_eq, Gf_eq] at *
  exact hw
theorem st_onNormR {K : St → Prop} {Q : Ex → St → Prop} (hw : Q .ret s) : onNorm K Q .ret s := by
  try simp only [Gc_eq, Gw_eq, Gf_eq] at *
  exact hw
theorem st_onExitN {Q : Ex → St → Prop} {id : Nat} (hw : Q .norm s) : onExit id Q .norm s := by
  try simp only [Gc_eq, Gw_eq, Gf_eq] at *
  exact hw
theorem st_onExitR {Q : Ex → St → Prop} {id : Nat} (hw : Q .ret s) : onExit id Q .ret s := by
  try simp only [Gc_eq, Gw_eq, Gf_eq] at *
  exact hw
theorem st_onExitS {Q : Ex → St → Prop} {id : Nat} (hw : Q .norm s) : onExit id Q (.exit id) s := by
  try simp only [Gc_eq, Gw_eq, Gf_eq] at *
  simpa only [onExit, if_true] using hw
theorem st_onExitO {Q : Ex → St → Prop} {id j : Nat} (hj : j ≠ id) (hw : Q (.exit j) s) : onExit id Q (.exit j) s := by
  try simp only [Gc_eq, Gw_eq, Gf_eq] at *
  simpa only [onExit, if_neg hj] using hw
theorem st_op {T T' : Nat → AV} {h' : Heap} {n' : Nat} {ops : Array Oper} {o : Oper} {l : List Oper} {v : AV} {Q : St → Prop} (hg : goes ops T o = some true) (hop : ∀ f as ts, o.op ≠ .call { callee := .value f, args := as, argTypes := ts })
    (hv : vop C.P (val C T) h n o.op = some (v, h', n')) (hn : n ≤ n') (hp : putT nt T o.dst v = some T') (hw : Gw C nt ops l ⟨T', h', n'⟩ Q) : Gw C nt ops (o :: l) ⟨T, h, n⟩ Q := by
  try simp only [Gc_eq, Gw_eq, Gf_eq] at *
  rw [Wo_cons, hg, Wg_true, Ws_vop hop, hv, Oq_some]
  refine ⟨hn, ?_⟩
  rw [hp]
  exact hw
theorem st_off {T T' : Nat → AV} {ops : Array Oper} {o : Oper} {l : List Oper} {Q : St → Prop} (hg : goes ops T o = some false) (hp : putT nt T o.dst (.tup []) = some T') (hw : Gw C nt ops l ⟨T', h, n⟩ Q) : Gw C nt ops (o :: l) ⟨T, h, n⟩ Q := by
  try simp only [Gc_eq, Gw_eq, Gf_eq] at *
  rw [Wo_cons, hg, Wg_false]
  rw [hp]
  exact hw
theorem st_pure {T T' : Nat → AV} {ops : Array Oper} {o : Oper} {l : List Oper} {Q : St → Prop} {f : Operand} {as : Array Operand} {ts : Array TypeId} {g : FuncId} {args caps : List AV} {r : AV}
    (hop : o.op = .call { callee := .value f, args := as, argTypes := ts }) (hg : goes ops T o = some true) (hf : val C T f = .fn (.func g) caps) (ha : as.toList.map (val C T) = args) (hi : (C.inl g || C.own g) = false) (ho : C.orc g = none) (hb : (args ++ caps).all noBox = true)
    (hr : purs (args ++ caps) = true) (hc : Pc C g (args ++ caps) r) (hp : putT nt T o.dst r = some T') (hw : Gw C nt ops l ⟨T', h, n⟩ Q) : Gw C nt ops (o :: l) ⟨T, h, n⟩ Q := by
  try simp only [Gc_eq, Gw_eq, Gf_eq] at *
  rw [Wo_cons, hg, Wg_true, hop, Ws_call, hf, ha, Wk_pure hi ho hr hb hc]
  refine ⟨Nat.le_refl _, ?_⟩
  rw [hp]
  exact hw
theorem st_inl {T : Nat → AV} {ops : Array Oper} {o : Oper} {l : List Oper} {Q : St → Prop} {f : Operand} {as : Array Operand} {ts : Array TypeId} {g : FuncId} {args caps : List AV}
    (hop : o.op = .call { callee := .value f, args := as, argTypes := ts }) (hg : goes ops T o = some true) (hf : val C T f = .fn (.func g) caps) (ha : as.toList.map (val C T) = args) (hi : C.inl g = true) (ho : orcTry C g (args ++ caps) h = none)
    (hw : Gf C g (args ++ caps) h n fun v h' n' => n ≤ n' ∧ Wp' (putT nt T o.dst v) fun T => Gw C nt ops l ⟨T, h', n'⟩ Q) : Gw C nt ops (o :: l) ⟨T, h, n⟩ Q := by
  try simp only [Gc_eq, Gw_eq, Gf_eq] at *
  rw [Wo_cons, hg, Wg_true, hop, Ws_call, hf, ha, Wk_inl hi ho]
  exact hw
theorem st_cond {c : Operand} {a b : Code} {Q : Ex → St → Prop} {t : Bool} (hc : val C s.T c = .sc (.bool t)) (h1 : t = true → Gc C nt rd a s Q) (h2 : t = false → Gc C nt rd b s Q) : Gc C nt rd (.cond c a b) s Q := by
  try simp only [Gc_eq, Gw_eq, Gf_eq] at *
  rw [Wc_cond, hc, Wb_bool]
  exact ⟨h1, h2⟩
theorem st_wr {rs : Array ResultVar} {Q : AV → Heap → Nat → Prop} {vs : List AV} (hv : retsA C s.T s.h rs.toList = some vs) (hq : Q (one1 vs) s.h s.n) : Wr C rs Q .ret s := by
  try simp only [Gc_eq, Gw_eq, Gf_eq] at *
  simp only [Wr, hv]
  exact hq
theorem st_wrn {rs : Array ResultVar} {Q : AV → Heap → Nat → Prop} {vs : List AV} (hv : retsA C s.T s.h rs.toList = some vs) (hq : Q (one1 vs) s.h s.n) : Wr C rs Q .norm s := by
  try simp only [Gc_eq, Gw_eq, Gf_eq] at *
  simp only [Wr, hv]
  exact hq
theorem Gf_enter {f : FuncId} {fn : Func} {c : Code} (hf : C.P.funcs[f]? = some fn) (hc : fn.body = some c) (hok : codeOk fn.ntmps c = true) {args : List AV} (ha : args.length ≤ fn.ntmps) {Q : AV → Heap → Nat → Prop}
    (hw : Gc C fn.ntmps false c ⟨argsT args, h, n⟩ (Wr C fn.results Q)) : Gf C f args h n Q :=
  ⟨(Wf_enter hf hc hok ha).2 hw.go⟩
theorem Pc_of {f : FuncId} {args : List AV} {r : AV} (hw : Gf C f args noHeap 0 fun v h _ => (frz h 64 v).map (·.1) = some r) : Pc C f args r := Pc_iff.2 hw.go
theorem Wk_box {f : FuncId} {args caps : List AV} (hb : (args ++ caps).all noBox = false) {Q : AV → Heap → Nat → Prop} : Wk C (.fn (.func f) caps) args h n Q ↔ Wf C f (args ++ caps) h n Q := by
  have e : ∀ k, callOf C (lv C k) (.fn (.func f) caps) args h n = (lv C k).fc f (args ++ caps) h n := by
    intro k
    have ho : orcTry C f (args ++ caps) h = none := by
      unfold orcTry
      split
      · split
        · rfl
        · rw [hb]; rfl
      · rfl
    simp only [callOf, anycall, ho, hb, Bool.false_eq_true, if_false, ite_self]
  unfold Wk Wf
  simp only [e]
theorem Wo_call {T : Nat → AV} {ops : Array Oper} {o : Oper} {l : List Oper} {Q : St → Prop} {f : Operand} {as : Array Operand} {ts : Array TypeId} {g : FuncId} {args caps : List AV}
    (hop : o.op = .call { callee := .value f, args := as, argTypes := ts }) (hg : goes ops T o = some true) (hf : val C T f = .fn (.func g) caps) (ha : as.toList.map (val C T) = args)
    (hw : Wk C (.fn (.func g) caps) args h n fun v h' n' => n ≤ n' ∧ Wp' (putT nt T o.dst v) fun T => Wo C nt ops l ⟨T, h', n'⟩ Q) : Wo C nt ops (o :: l) ⟨T, h, n⟩ Q := by
  rw [Wo_cons, hg, Wg_true, hop, Ws_call, hf, ha]
  exact hw
structure Gn (C : Cfg) (nt : Nat) (n : Nat) (T : Nat → AV) (d : Option Tmp) (ops : Array Oper) (l : List Oper) (Q : St → Prop) (v : AV) (h' : Heap) (n' : Nat) : Prop where
  le : n ≤ n'
  go : Wp' (putT nt T d v) fun T => Gw C nt ops l ⟨T, h', n'⟩ Q
theorem st_gn {T T' : Nat → AV} {d : Option Tmp} {ops : Array Oper} {l : List Oper} {Q : St → Prop} {v : AV} {h' : Heap} {n' : Nat} (hn : n ≤ n') (hp : putT nt T d v = some T') (hw : Gw C nt ops l ⟨T', h', n'⟩ Q) : Gn C nt n T d ops l Q v h' n' :=
  ⟨hn, by rw [hp]; exact hw⟩
theorem Wf_mono {f : FuncId} {args : List AV} {Q Q' : AV → Heap → Nat → Prop} (hq : ∀ v h n, Q v h n → Q' v h n) (hw : Wf C f args h n Q) : Wf C f args h n Q' := by
  obtain ⟨k, v, h', n', h1, h2⟩ := hw
  exact ⟨k, v, h', n', h1, hq _ _ _ h2⟩
theorem Gf_mono {f : FuncId} {args : List AV} {Q Q' : AV → Heap → Nat → Prop} (hq : ∀ v h n, Q v h n → Q' v h n) (hw : Gf C f args h n Q) : Gf C f args h n Q' := ⟨Wf_mono hq hw.go⟩
theorem st_walk {T : Nat → AV} {ops : Array Oper} {o : Oper} {l : List Oper} {Q : St → Prop} {f : Operand} {as : Array Operand} {ts : Array TypeId} {g : FuncId} {args caps : List AV}
    (hop : o.op = .call { callee := .value f, args := as, argTypes := ts }) (hg : goes ops T o = some true) (hf : val C T f = .fn (.func g) caps) (ha : as.toList.map (val C T) = args) (hi : (C.inl g || !(args ++ caps).all noBox) = true) (ho : orcTry C g (args ++ caps) h = none)
    (hw : Gf C g (args ++ caps) h n (Gn C nt n T o.dst ops l Q)) : Gw C nt ops (o :: l) ⟨T, h, n⟩ Q := by
  have hw' : Wf C g (args ++ caps) h n fun v h' n' => n ≤ n' ∧ Wp' (putT nt T o.dst v) fun T => Wo C nt ops l ⟨T, h', n'⟩ Q :=
    Wf_mono (fun v h n e => ⟨e.le, by have := e.go; simp only [Gw_eq] at this; exact this⟩) hw.go
  refine ⟨Wo_call hop hg hf ha ?_⟩
  cases h1 : C.inl g with
  | true => rw [Wk_inl h1 ho]; exact hw'
  | false =>
    rw [h1, Bool.false_or] at hi
    rw [Wk_box (by rw [← Bool.not_eq_true', hi])]; exact hw'
theorem Wk_frz {f : FuncId} {args caps as : List AV} {ids : List Nat} {r : AV} (hi : (C.inl f || C.own f) = false) (ho : C.orc f = none) (hb : (args ++ caps).all noBox = true) (hp : mapF (frz h 64) (args ++ caps) = some (as, ids)) (hc : Pc C f as r) {Q : AV → Heap → Nat → Prop} (hq : Q r (if r.flat then h else shutIds h ids) n) :
    Wk C (.fn (.func f) caps) args h n Q := by
  obtain ⟨k, hk⟩ := hc
  obtain ⟨hi, hown⟩ := orF hi
  refine ⟨k, r, _, n, ?_, hq⟩
  simp only [callOf, anycall, orcTry, ho, hi, hown, hb, if_true, hp, ho, hk, Bool.false_eq_true, if_false]
theorem st_frz {T T' : Nat → AV} {ops : Array Oper} {o : Oper} {l : List Oper} {Q : St → Prop} {f : Operand} {as : Array Operand} {ts : Array TypeId} {g : FuncId} {args caps fz : List AV} {ids : List Nat} {r : AV}
    (hop : o.op = .call { callee := .value f, args := as, argTypes := ts }) (hg : goes ops T o = some true) (hf : val C T f = .fn (.func g) caps) (ha : as.toList.map (val C T) = args) (hi : (C.inl g || C.own g) = false) (ho : C.orc g = none) (hb : (args ++ caps).all noBox = true)
    (hm : mapF (frz h 64) (args ++ caps) = some (fz, ids)) (hc : Pc C g fz r) (hp : putT nt T o.dst r = some T') (hw : Gw C nt ops l ⟨T', if r.flat then h else shutIds h ids, n⟩ Q) : Gw C nt ops (o :: l) ⟨T, h, n⟩ Q := by
  refine ⟨Wo_call hop hg hf ha (Wk_frz hi ho hb hm hc ⟨Nat.le_refl _, ?_⟩)⟩
  rw [hp]
  exact hw.go
end
end Go.Proofs.Bv
namespace Go.Proofs.Bv
open Go
section
variable {C : Cfg} {P : Program} {nt : Nat} {rd : Bool} {s : St} {h : Heap} {n t : Nat} {xo yo : Operand}
theorem ev_add {k : IntKind} {a b : Int} : vbin P .add t xo yo (.sc (.int k a)) (.sc (.int k b)) = some (.sc (.int k (k.wrap (a + b)))) := by
  simp [vbin, toVal, eqGuard, binOp, Op.intArith, pureRun, scal, plain, bind, pure, Sem.bind]
theorem ev_sub {k : IntKind} {a b : Int} : vbin P .sub t xo yo (.sc (.int k a)) (.sc (.int k b)) = some (.sc (.int k (k.wrap (a - b)))) := by
  simp [vbin, toVal, eqGuard, binOp, Op.intArith, pureRun, scal, plain, bind, pure, Sem.bind]
theorem ev_mul {k : IntKind} {a b : Int} : vbin P .mul t xo yo (.sc (.int k a)) (.sc (.int k b)) = some (.sc (.int k (k.wrap (a * b)))) := by
  simp [vbin, toVal, eqGuard, binOp, Op.intArith, pureRun, scal, plain, bind, pure, Sem.bind]
theorem ev_lss {k : IntKind} {a b : Int} : vbin P .lss t xo yo (.sc (.int k a)) (.sc (.int k b)) = some (.sc (.bool (decide (a < b)))) := by
  simp [vbin, toVal, eqGuard, binOp, Op.intCmp, pureRun, scal, plain, bind, pure, Sem.bind]
theorem ev_leq {k : IntKind} {a b : Int} : vbin P .leq t xo yo (.sc (.int k a)) (.sc (.int k b)) = some (.sc (.bool (decide (a ≤ b)))) := by
  simp [vbin, toVal, eqGuard, binOp, Op.intCmp, pureRun, scal, plain, bind, pure, Sem.bind]
theorem ev_gtr {k : IntKind} {a b : Int} : vbin P .gtr t xo yo (.sc (.int k a)) (.sc (.int k b)) = some (.sc (.bool (decide (b < a)))) := by
  simp [vbin, toVal, eqGuard, binOp, Op.intCmp, pureRun, scal, plain, bind, pure, Sem.bind]
theorem ev_geq {k : IntKind} {a b : Int} : vbin P .geq t xo yo (.sc (.int k a)) (.sc (.int k b)) = some (.sc (.bool (decide (b ≤ a)))) := by
  simp [vbin, toVal, eqGuard, binOp, Op.intCmp, pureRun, scal, plain, bind, pure, Sem.bind]
theorem ev_eql {k : IntKind} {a b : Int} : vbin P .eql t xo yo (.sc (.int k a)) (.sc (.int k b)) = some (.sc (.bool (decide (a = b)))) := by
  simp [vbin, toVal, eqGuard, binOp, Op.intCmp, pureRun, scal, plain, bind, pure, Sem.bind]
  rfl
theorem ev_neq {k : IntKind} {a b : Int} : vbin P .neq t xo yo (.sc (.int k a)) (.sc (.int k b)) = some (.sc (.bool (!decide (a = b)))) := by
  simp [vbin, toVal, eqGuard, binOp, Op.intCmp, pureRun, scal, plain, bind, pure, Sem.bind]
  rfl
theorem ev_rem {k : IntKind} {a b : Int} (hb : b ≠ 0) : vbin P .rem t xo yo (.sc (.int k a)) (.sc (.int k b)) = some (.sc (.int k (a.tmod b))) := by
  simp [vbin, toVal, eqGuard, binOp, Op.intDiv, hb, pureRun, scal, plain, bind, pure, Sem.bind]
theorem ev_quo {k : IntKind} {a b : Int} (hb : b ≠ 0) : vbin P .quo t xo yo (.sc (.int k a)) (.sc (.int k b)) = some (.sc (.int k (k.wrap (a.tdiv b)))) := by
  simp [vbin, toVal, eqGuard, binOp, Op.intDiv, hb, pureRun, scal, plain, bind, pure, Sem.bind]
theorem ev_seql {a b : ByteArray} : vbin P .eql t xo yo (.sc (.string a)) (.sc (.string b)) = some (.sc (.bool (a.toList == b.toList))) := by
  simp [vbin, toVal, eqGuard, binOp, Op.stringOp, pureRun, scal, plain, bind, pure, Sem.bind]
theorem ev_sneq {a b : ByteArray} : vbin P .neq t xo yo (.sc (.string a)) (.sc (.string b)) = some (.sc (.bool (!(a.toList == b.toList)))) := by
  simp [vbin, toVal, eqGuard, binOp, Op.stringOp, pureRun, scal, plain, bind, pure, Sem.bind]
theorem ev_sleq {a b : ByteArray} : vbin P .leq t xo yo (.sc (.string a)) (.sc (.string b)) = some (.sc (.bool (Op.bytesLess a.toList b.toList || a.toList == b.toList))) := by
  simp [vbin, toVal, eqGuard, binOp, Op.stringOp, pureRun, scal, plain, bind, pure, Sem.bind]
theorem ev_slss {a b : ByteArray} : vbin P .lss t xo yo (.sc (.string a)) (.sc (.string b)) = some (.sc (.bool (Op.bytesLess a.toList b.toList))) := by
  simp [vbin, toVal, eqGuard, binOp, Op.stringOp, pureRun, scal, plain, bind, pure, Sem.bind]
theorem ev_not {a : Bool} : ((toVal (.sc (.bool a))).bind fun u => (pureRun P (Op.unary .not u)).bind scal) = some (.sc (.bool (!a))) := by
  simp [toVal, Op.unary, pureRun, scal, plain, bind, pure, Sem.bind]
theorem ev_min {a b : Int} {ts : List TypeId} : vbuiltin P .min ts [.sc (.int .i64 a), .sc (.int .i64 b)] h n = some (.sc (.int .i64 (min a b)), h, n) := by
  simp [vbuiltin, toVal, Builtin.min_, Builtin.min2, pureRun, scal, plain, bind, pure, Sem.bind]
  try omega
theorem ev_max {a b : Int} {ts : List TypeId} : vbuiltin P .max ts [.sc (.int .i64 a), .sc (.int .i64 b)] h n = some (.sc (.int .i64 (max a b)), h, n) := by
  simp [vbuiltin, toVal, Builtin.max_, Builtin.max2, pureRun, scal, plain, bind, pure, Sem.bind]
  try omega
theorem Ws_builtin {b : Builtin} {args : Array Operand} {ts : Array TypeId} {ρ : Operand → AV} {Q : AV → Heap → Nat → Prop} : Ws C (.call { callee := .builtin b, args := args, argTypes := ts }) ρ h n Q ↔ Oq (vbuiltin C.P b ts.toList (args.toList.map ρ) h n) Q := by
  rw [Ws_vop (by intro f as ts e; cases e)]
  rfl
def lenA (d : Option TypeDesc) (x : AV) : Option AV :=
  match d, x with
  | some .string, .sc (.string s) => some (.sc (.int .i64 s.size))
  | some (.slice _), .psl _ len | some (.slice _), .osl _ _ len => some (.sc (.int .i64 len))
  | some (.slice _), .nilS => some (.sc (.int .i64 (0 : Nat)))
  | some (.slice _), .emp => some (.sc (.int .i64 (0 : Nat)))
  | _, _ => none
theorem vb_len {t : TypeId} {x : AV} : vbuiltin P .len [t] [x] h n = (lenA (P.underlying t) x).map fun v => (v, h, n) := by
  unfold vbuiltin lenA
  simp only
  split <;> first | rfl | simp_all
theorem asNat_nat {k : IntKind} {m : Nat} : asNat (.sc (.int k (m : Int))) = some m := by simp [asNat]
theorem cut_cons {a : AV} {l : List AV} {k : Nat} : cut (a :: l) 0 (k + 1) = a :: cut l 0 k := by simp [cut]
theorem cut_zero {l : List AV} {o : Nat} : cut l o 0 = [] := by simp [cut]
theorem cut_skip {a : AV} {l : List AV} {k o : Nat} : cut (a :: l) (o + 1) k = cut l o k := by simp [cut]
theorem asNat_zero {k : IntKind} : asNat (.sc (.int k 0)) = some 0 := by simp [asNat]
theorem asNat_one {k : IntKind} : asNat (.sc (.int k 1)) = some 1 := by simp [asNat]
theorem asNat_two {k : IntKind} : asNat (.sc (.int k 2)) = some 2 := by simp [asNat]
theorem asNat_three {k : IntKind} : asNat (.sc (.int k 3)) = some 3 := by simp [asNat]
end
end Go.Proofs.Bv
namespace Go.Proofs.Bv
open Go
section
variable {C : Cfg} {nt : Nat} {rd : Bool} {s : St} {ops : Array Oper} {all : Nat → List Nat} {T0 : Nat → AV} {h0 h' : Heap} {hides : Nat → List Nat} {l : List Oper} {i n n' : Nat} {recs : Recs} {Q : Recs → Nat → Prop} {o : Oper} {v : AV} {pre : List Nat}
structure Gd (C : Cfg) (ops : Array Oper) (all : Nat → List Nat) (T0 : Nat → AV) (h0 : Heap) (hides : Nat → List Nat) (l : List Oper) (i : Nat) (recs : Recs) (n : Nat) (Q : Recs → Nat → Prop) : Prop where
  go : ∃ k R nE, dgo C (lv C k).fc ops all T0 h0 hides l i recs n = some (R, nE) ∧ Q R nE
theorem gd_nil (hq : Q recs n) : Gd C ops all T0 h0 hides [] i recs n Q := ⟨0, recs, n, rfl, hq⟩
theorem gd_op {tch : List Nat} (hb : ((bindOn o).all fun j => decide (j < i)) = true) (hp : preOf recs (bindOn o) = pre) (hg : goes ops (tAt T0 (all i) (fun j => pre.contains j) recs) o = some true)
    (hop : ∀ f as ts, o.op ≠ .call { callee := .value f, args := as, argTypes := ts })
    (hv : vop C.P (val C (tAt T0 (all i) (fun j => pre.contains j) recs)) (hHide (hides i) (hAt h0 (fun j => pre.contains j) recs)) n o.op = some (v, h', n')) (hn : n ≤ n')
    (ht : touch (val C (tAt T0 (all i) (fun j => pre.contains j) recs)) n n' o.op = tch) (htc : (tch.all fun b => !(hides i).contains b) = true)
    (hw : Gd C ops all T0 h0 hides l (i + 1) ((i, ⟨pre, o.dst, v, tch.map fun b => (b, h' b), n, n'⟩) :: recs) n' Q) : Gd C ops all T0 h0 hides (o :: l) i recs n Q := by
  obtain ⟨k, R, nE, h1, h2⟩ := hw.go
  refine ⟨k, R, nE, ?_, h2⟩
  have hd : dstep C (lv C k).fc (val C (tAt T0 (all i) (fun j => pre.contains j) recs)) (hHide (hides i) (hAt h0 (fun j => pre.contains j) recs)) n o.op = some (v, tch, h', n') := by
    unfold dstep
    split
    · rename_i f as ts e
      exact absurd e (hop f as ts)
    · rw [hv]
      simp only [Option.map_some, ht]
  simp only [dgo]
  rw [if_pos hb, hp, hg]
  simp only [hd]
  rw [if_pos ⟨hn, htc⟩]
  exact h1
theorem gd_off (hb : ((bindOn o).all fun j => decide (j < i)) = true) (hp : preOf recs (bindOn o) = pre) (hg : goes ops (tAt T0 (all i) (fun j => pre.contains j) recs) o = some false)
    (hw : Gd C ops all T0 h0 hides l (i + 1) ((i, ⟨pre, o.dst, .tup [], [], n, n⟩) :: recs) n Q) : Gd C ops all T0 h0 hides (o :: l) i recs n Q := by
  obtain ⟨k, R, nE, h1, h2⟩ := hw.go
  refine ⟨k, R, nE, ?_, h2⟩
  simp only [dgo]
  rw [if_pos hb, hp, hg]
  exact h1
theorem gd_call {f : Operand} {as : Array Operand} {ts : Array TypeId} {g : FuncId} {args caps : List AV} {r : AV} (hop : o.op = .call { callee := .value f, args := as, argTypes := ts })
    (hb : ((bindOn o).all fun j => decide (j < i)) = true) (hp : preOf recs (bindOn o) = pre) (hg : goes ops (tAt T0 (all i) (fun j => pre.contains j) recs) o = some true)
    (hf : val C (tAt T0 (all i) (fun j => pre.contains j) recs) f = .fn (.func g) caps) (ha : as.toList.map (val C (tAt T0 (all i) (fun j => pre.contains j) recs)) = args) (hi : (C.inl g || C.own g) = false) (ho : C.orc g = none) (hbx : (args ++ caps).all noBox = true)
    (hr : purs (args ++ caps) = true) (hc : Pc C g (args ++ caps) r)
    (hw : Gd C ops all T0 h0 hides l (i + 1) ((i, ⟨pre, o.dst, r, [], n, n⟩) :: recs) n Q) : Gd C ops all T0 h0 hides (o :: l) i recs n Q := by
  obtain ⟨k, R, nE, h1, h2⟩ := hw.go
  obtain ⟨k2, hk2⟩ := hc
  refine ⟨max k k2, R, nE, ?_, h2⟩
  have g1 := dgo_up (C := C) (lv_up (Nat.le_max_left k k2)).1 _ _ h1
  have g2 := pcall_up (lv_up (Nat.le_max_right k k2)).1 _ hk2
  have hd : ∀ hh, dstep C (lv C (max k k2)).fc (val C (tAt T0 (all i) (fun j => pre.contains j) recs)) hh n o.op = some (r, [], hh, n) := by
    intro hh
    rw [hop]
    unfold dstep
    simp only [hf, ha]
    unfold dcall orcTry
    rw [(orF hi).1, ho]
    simp only [(orF hi).2, Bool.false_eq_true, if_false]
    rw [if_pos hbx, mapF_purs hh 63 hr]
    simp only [g2, shut_nil, ite_self]
  simp only [dgo]
  rw [if_pos hb, hp, hg]
  simp only [hd]
  rw [if_pos ⟨Nat.le_refl _, rfl⟩]
  exact g1
theorem incs_quiet {R : Recs} (hR : (R.all fun x => x.2.ups.isEmpty) = true) : incs R = fun _ => [] := by
  funext i
  unfold incs
  split
  · rw [List.flatMap_eq_nil_iff]
    intro x hx
    split
    · rfl
    · rw [List.all_eq_true] at hR
      have := hR x hx
      rw [List.isEmpty_iff] at this
      rw [this]
      rfl
  · rfl
theorem hAt_quiet {h0 : Heap} {on : Nat → Bool} {R : Recs} (hR : (R.all fun x => x.2.ups.isEmpty) = true) : hAt h0 on R = h0 := by
  induction R with
  | nil => rfl
  | cons x R ih =>
    simp only [List.all_cons, Bool.and_eq_true, List.isEmpty_iff] at hR
    have ih := ih hR.2
    funext b
    have := congrFun ih b
    simp only [hAt, hR.1, upsAt, this, ite_self]
theorem dgo_all {fc : FcF} {al al' : Nat → List Nat} : (l : List Oper) → (i : Nat) → (recs : Recs) → (n : Nat) → (∀ j, i ≤ j → j < i + l.length → al j = al' j) →
    dgo C fc ops al T0 h0 hides l i recs n = dgo C fc ops al' T0 h0 hides l i recs n
  | [], _, _, _, _ => rfl
  | o :: l, i, recs, n, h => by
    have h1 := h i (Nat.le_refl _) (by simp)
    have ih : ∀ recs n, dgo C fc ops al T0 h0 hides l (i + 1) recs n = dgo C fc ops al' T0 h0 hides l (i + 1) recs n := fun recs n =>
      dgo_all l (i + 1) recs n fun j a b => h j (by omega) (by simp only [List.length_cons]; omega)
    simp only [dgo, h1, ih]
def openL (ops : Array Oper) : List (List Nat) := (List.range ops.size).map (openAt ops)
abbrev pick (L : List (List Nat)) (i : Nat) : List Nat := (L[i]?).getD []
theorem pick_open {L : List (List Nat)} (hL : openL ops = L) (j : Nat) (hj : j < ops.size) : pick L j = openAt ops j := by
  unfold pick
  rw [← hL, openL, List.getElem?_map, List.getElem?_range hj]
  rfl
theorem st_draw {id : Nat} {Q : Ex → St → Prop} {L : List (List Nat)} (hL : openL ops = L) (hnd : nodupB (ops.toList.filterMap (·.dst)) = true)
    (hw : Gd C ops (pick L) s.T s.h (fun _ => []) ops.toList 0 [] s.n fun R nE => (R.all fun x => x.2.ups.isEmpty) = true ∧ Q .norm ⟨tAt s.T [] (fun _ => true) R, s.h, nE⟩) : Gc C nt rd (.region id ops true) s Q := by
  obtain ⟨k, R, nE, h1, h2, h3⟩ := hw.go
  rw [dgo_all (al' := openAt ops) _ _ _ _ (fun j _ hj => pick_open hL j (by simpa using hj))] at h1
  refine ⟨k, .norm, ⟨tAt s.T [] (fun _ => true) R, s.h, nE⟩, ?_, h3⟩
  unfold vc
  simp only [vcode, if_true, Option.map_eq_some_iff]
  refine ⟨_, ?_, rfl⟩
  unfold vdraw
  simp only
  rw [if_pos hnd, h1]
  simp only [incs_quiet h2, h1]
  rw [if_pos (by simp), hAt_quiet h2]
theorem gd_end {R : Recs} {A : Prop} (h1 : (R.all fun x => x.2.ups.isEmpty) = true) (h2 : A) : (R.all fun x => x.2.ups.isEmpty) = true ∧ A := ⟨h1, h2⟩
theorem bn_data {j : Nat} : Region.binds .any ⟨j, .data⟩ = true := rfl
theorem bn_chain {j : Nat} : Region.binds .any ⟨j, .chain⟩ = true := rfl
theorem bn_guard {j : Nat} : Region.binds .any ⟨j, .guard⟩ = true := rfl
theorem bn_phase {j : Nat} : Region.binds .any ⟨j, .phase⟩ = true := rfl
theorem bn_text {j : Nat} {d : Departure} : Region.binds .any ⟨j, .textOnly d⟩ = false := rfl
theorem bn_gc {j : Nat} {d : Departure} : Region.binds .any ⟨j, .gcOnly d⟩ = false := rfl
end
end Go.Proofs.Bv
namespace Go.Proofs.Bv
open Go
section
variable {C : Cfg} {nt : Nat} {rd : Bool} {s : St} {h : Heap} {n : Nat}
def rangeEnd (T : Nat → AV) (b : Nat) (Q : Ex → St → Prop) (h : Heap) (n : Nat) : Prop :=
  b + 1 ≤ n ∧ match h b with
    | some (.loop l) =>
      match l.jump, l.open_ with
      | none, true => Q .norm ⟨T, upd h b none, n⟩
      | some .ret, _ => Q .ret ⟨T, upd h b none, n⟩
      | some (.exit id), _ => Q (.exit id) ⟨T, upd h b none, n⟩
      | _, _ => False
    | _ => False
theorem rangeEnd_norm {T : Nat → AV} {b : Nat} {Q : Ex → St → Prop} {L : LoopA} (hn : b + 1 ≤ n) (hL : h b = some (.loop L)) (hj : L.jump = none) (ho : L.open_ = true) (hq : Q .norm ⟨T, upd h b none, n⟩) : rangeEnd T b Q h n := by
  refine ⟨hn, ?_⟩
  rw [hL]
  simp only [hj, ho]
  exact hq
theorem rangeEnd_ret {T : Nat → AV} {b : Nat} {Q : Ex → St → Prop} {L : LoopA} (hn : b + 1 ≤ n) (hL : h b = some (.loop L)) (hj : L.jump = some .ret) (hq : Q .ret ⟨T, upd h b none, n⟩) : rangeEnd T b Q h n := by
  refine ⟨hn, ?_⟩
  rw [hL]
  simp only [hj]
  exact hq
theorem rangeEnd_exit {T : Nat → AV} {b id : Nat} {Q : Ex → St → Prop} {L : LoopA} (hn : b + 1 ≤ n) (hL : h b = some (.loop L)) (hj : L.jump = some (.exit id)) (hq : Q (.exit id) ⟨T, upd h b none, n⟩) : rangeEnd T b Q h n := by
  refine ⟨hn, ?_⟩
  rw [hL]
  simp only [hj]
  exact hq
theorem st_range {g : Operand} {ps : Array Tmp} {as body : Code} {Q : Ex → St → Prop} {f : FuncId} {caps : List AV} (hg : val C s.T g = .fn (.func f) caps)
    (hw : Gf C f (.fn (.yield s.n) [] :: caps) (upd s.h s.n (some (.loop ⟨s.T, nt, ps.toList, as, body, none, true⟩))) (s.n + 1) fun _ h n => rangeEnd s.T s.n Q h n) : Gc C nt false (.rangeFunc g ps as body) s Q := by
  obtain ⟨k, v, h', n', h1, h2, h3⟩ := hw.go
  split at h3 <;> try (exact h3.elim)
  rename_i L hL
  have key : ∀ e s', (match L.jump, L.open_ with
      | none, true => some (.norm, ⟨s.T, upd h' s.n none, n'⟩)
      | some .ret, _ => some (.ret, ⟨s.T, upd h' s.n none, n'⟩)
      | some (.exit id), _ => some (.exit id, ⟨s.T, upd h' s.n none, n'⟩)
      | _, _ => (none : Option (Ex × St))) = some (e, s') → vc C k nt false (.rangeFunc g ps as body) s = some (e, s') := by
    intro e s' hv
    unfold vc
    simp only [vcode, hg, h1, hL, Bool.false_eq_true, if_false]
    rw [if_neg (by omega)]
    exact hv
  split at h3
  · rename_i hj ho
    exact ⟨k, _, _, key _ _ (by simp only [hj, ho]), h3⟩
  · rename_i hj
    exact ⟨k, _, _, key _ _ (by simp only [hj]), h3⟩
  · rename_i hj
    exact ⟨k, _, _, key _ _ (by simp only [hj]), h3⟩
  · exact h3.elim
def roundEnd (b : Nat) (K : AV → Heap → Nat → Prop) : Ex → St → Prop := fun e s =>
  match s.h b with
  | some (.loop L) =>
    match e with
    | .norm => K (.sc (.bool true)) (upd s.h b (some (.loop { L with open_ := true, jump := none }))) s.n
    | .ret => K (.sc (.bool false)) (upd s.h b (some (.loop { L with open_ := false, jump := some .ret }))) s.n
    | .exit id => K (.sc (.bool false)) (upd s.h b (some (.loop { L with open_ := false, jump := some (.exit id) }))) s.n
  | _ => False
theorem roundEnd_norm {b : Nat} {K : AV → Heap → Nat → Prop} {L : LoopA} (hL : s.h b = some (.loop L)) (hk : K (.sc (.bool true)) (upd s.h b (some (.loop { L with open_ := true, jump := none }))) s.n) : roundEnd b K .norm s := by
  simp only [roundEnd, hL]; exact hk
theorem roundEnd_ret {b : Nat} {K : AV → Heap → Nat → Prop} {L : LoopA} (hL : s.h b = some (.loop L)) (hk : K (.sc (.bool false)) (upd s.h b (some (.loop { L with open_ := false, jump := some .ret }))) s.n) : roundEnd b K .ret s := by
  simp only [roundEnd, hL]; exact hk
theorem roundEnd_exit {b id : Nat} {K : AV → Heap → Nat → Prop} {L : LoopA} (hL : s.h b = some (.loop L)) (hk : K (.sc (.bool false)) (upd s.h b (some (.loop { L with open_ := false, jump := some (.exit id) }))) s.n) : roundEnd b K (.exit id) s := by
  simp only [roundEnd, hL]; exact hk
def roundMid (C : Cfg) (nt : Nat) (body : Code) (b : Nat) (K : AV → Heap → Nat → Prop) : Ex → St → Prop := fun e s =>
  e = .norm ∧ match s.h b with
    | some (.loop L) => (L.open_ && L.jump.isNone) = true ∧ Gc C nt true body ⟨s.T, upd s.h b (some (.loop { L with open_ := false })), s.n⟩ (roundEnd b K)
    | _ => False
theorem roundMid_of {body : Code} {b : Nat} {K : AV → Heap → Nat → Prop} {L : LoopA} (hL : s.h b = some (.loop L)) (ho : (L.open_ && L.jump.isNone) = true) (hk : Gc C nt true body ⟨s.T, upd s.h b (some (.loop { L with open_ := false })), s.n⟩ (roundEnd b K)) : roundMid C nt body b K .norm s := by
  refine ⟨rfl, ?_⟩
  simp only [hL]
  exact ⟨ho, hk⟩
theorem Wk_yield {b : Nat} {caps args : List AV} {L : LoopA} {T1 : Nat → AV} {K : AV → Heap → Nat → Prop} (hL : h b = some (.loop L)) (hok : (L.open_ && codeOk L.nt L.assign && codeOk L.nt L.body) = true) (hp : setParams L.nt L.params args L.T = some T1)
    (hw : Gc C L.nt true L.assign ⟨T1, h, n⟩ (roundMid C L.nt L.body b K)) : Wk C (.fn (.yield b) caps) args h n K := by
  obtain ⟨k1, e1, s1, h1, rfl, h2⟩ := hw.go
  split at h2 <;> try (exact h2.elim)
  rename_i L1 hL1
  obtain ⟨ho1, h2⟩ := h2
  obtain ⟨k2, e2, s2, h3, h4⟩ := h2.go
  unfold roundEnd at h4
  split at h4 <;> try (exact h4.elim)
  rename_i L2 hL2
  have g1 := vc_up (Nat.le_max_left k1 k2) _ h1
  have g2 := vc_up (Nat.le_max_right k1 k2) _ h3
  have key : ∀ r, (match e2 with
      | .norm => some (.sc (.bool true), upd s2.h b (some (.loop { L2 with open_ := true, jump := none })), s2.n)
      | .ret => some (.sc (.bool false), upd s2.h b (some (.loop { L2 with open_ := false, jump := some .ret })), s2.n)
      | .exit id => (some (.sc (.bool false), upd s2.h b (some (.loop { L2 with open_ := false, jump := some (.exit id) })), s2.n) : Out)) = some r →
      callOf C (lv C (max k1 k2 + 1)) (.fn (.yield b) caps) args h n = some r := by
    intro r hv
    show vyield C _ _ _ _ b args h n = some r
    unfold vyield
    rw [hL]
    simp only
    rw [if_pos hok, hp]
    simp only
    unfold vc at g1 g2
    rw [g1]
    simp only [hL1]
    rw [if_pos ho1]
    rw [g2]
    simp only [hL2]
    exact hv
  cases e2 with
  | norm => exact ⟨_, _, _, _, key _ rfl, h4⟩
  | ret => exact ⟨_, _, _, _, key _ rfl, h4⟩
  | exit id => exact ⟨_, _, _, _, key _ rfl, h4⟩
theorem st_yield {T : Nat → AV} {ops : Array Oper} {o : Oper} {l : List Oper} {Q : St → Prop} {f : Operand} {as : Array Operand} {ts : Array TypeId} {b : Nat} {args caps : List AV} {L : LoopA} {T1 : Nat → AV}
    (hop : o.op = .call { callee := .value f, args := as, argTypes := ts }) (hg : goes ops T o = some true) (hf : val C T f = .fn (.yield b) caps) (ha : as.toList.map (val C T) = args)
    (hL : h b = some (.loop L)) (hok : (L.open_ && codeOk L.nt L.assign && codeOk L.nt L.body) = true) (hp : setParams L.nt L.params args L.T = some T1)
    (hw : Gc C L.nt true L.assign ⟨T1, h, n⟩ (roundMid C L.nt L.body b (Gn C nt n T o.dst ops l Q))) : Gw C nt ops (o :: l) ⟨T, h, n⟩ Q := by
  refine ⟨?_⟩
  rw [Wo_cons, hg, Wg_true, hop, Ws_call, hf, ha]
  obtain ⟨k, v, h', n', e1, e2⟩ := Wk_yield (caps := caps) hL hok hp hw
  refine ⟨k, v, h', n', e1, e2.le, ?_⟩
  have := e2.go
  simp only [Gw_eq] at this
  exact this
theorem st_loop {c : Code} {Q : Ex → St → Prop} (hw : Gc C nt rd c s (onNorm (fun s => Gc C nt rd (.loop c) s Q) Q)) : Gc C nt rd (.loop c) s Q := by
  simp only [Gc_eq] at *
  exact Wc_loop.2 hw
end
end Go.Proofs.Bv
namespace Go.Proofs.Bv
open Go
section
variable {C : Cfg} {P : Program} {h : Heap} {n t : Nat} {xo yo : Operand}
theorem ev_shl {k yk : IntKind} {a b : Int} (hb : 0 ≤ b) : vbin P .shl t xo yo (.sc (.int k a)) (.sc (.int yk b)) = some (.sc (.int k (k.wrap (a * 2 ^ (min b.toNat k.bits))))) := by
  have : ¬ b < 0 := by omega
  simp [vbin, toVal, eqGuard, binOp, Op.shift, this, pureRun, scal, plain, bind, pure, Sem.bind]
theorem ev_shr {k yk : IntKind} {a b : Int} (hb : 0 ≤ b) : vbin P .shr t xo yo (.sc (.int k a)) (.sc (.int yk b)) = some (.sc (.int k (a.fdiv (2 ^ (min b.toNat k.bits))))) := by
  have : ¬ b < 0 := by omega
  simp [vbin, toVal, eqGuard, binOp, Op.shift, this, pureRun, scal, plain, bind, pure, Sem.bind]
theorem ev_and {k : IntKind} {a b : Int} : vbin P .and t xo yo (.sc (.int k a)) (.sc (.int k b)) = some (.sc (.int k (k.wrap ((BitVec.ofInt k.bits a &&& BitVec.ofInt k.bits b).toNat : Int)))) := by
  simp [vbin, toVal, eqGuard, binOp, Op.intBits, pureRun, scal, plain, bind, pure, Sem.bind]
theorem ev_or {k : IntKind} {a b : Int} : vbin P .or t xo yo (.sc (.int k a)) (.sc (.int k b)) = some (.sc (.int k (k.wrap ((BitVec.ofInt k.bits a ||| BitVec.ofInt k.bits b).toNat : Int)))) := by
  simp [vbin, toVal, eqGuard, binOp, Op.intBits, pureRun, scal, plain, bind, pure, Sem.bind]
theorem ev_xor {k : IntKind} {a b : Int} : vbin P .xor t xo yo (.sc (.int k a)) (.sc (.int k b)) = some (.sc (.int k (k.wrap ((BitVec.ofInt k.bits a ^^^ BitVec.ofInt k.bits b).toNat : Int)))) := by
  simp [vbin, toVal, eqGuard, binOp, Op.intBits, pureRun, scal, plain, bind, pure, Sem.bind]
theorem ev_andNot {k : IntKind} {a b : Int} : vbin P .andNot t xo yo (.sc (.int k a)) (.sc (.int k b)) = some (.sc (.int k (k.wrap ((BitVec.ofInt k.bits a &&& ~~~ BitVec.ofInt k.bits b).toNat : Int)))) := by
  simp [vbin, toVal, eqGuard, binOp, Op.intBits, pureRun, scal, plain, bind, pure, Sem.bind]
theorem ev_conv {src dst : TypeId} {d : TypeDesc} {k k0 : IntKind} {a : Int} (h1 : P.underlying src = some d) (h2 : P.underlying dst = some (.int k)) : ((pureRun P (convert src dst (.int k0 a))).bind scal) = some (.sc (.int k (k.wrap a))) := by
  simp only [convert, Go.underlying, program, bind, Sem.bind, h1, h2, pureRun, pure]
  cases d <;> simp [Conv.intToInt, pureRun, scal, plain, pure]
end
end Go.Proofs.Bv
