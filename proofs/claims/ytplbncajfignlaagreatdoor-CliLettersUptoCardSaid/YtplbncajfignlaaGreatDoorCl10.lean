/-
  A part of the proof of CliLettersUptoCardSaid: BvSt, BvSet, BvWk.
  Conditions: those that each part names.
-/
import Derived.Test.YtplbncajfignlaaGreatDoorCl09
import Derived.Attr
set_option linter.unusedSimpArgs false
set_option linter.unusedVariables false
namespace Go.Proofs.Bv
open Go
structure Ev {α : Type} (e : α) (K : α → Prop) : Prop where
  go : K e
structure Ey {α : Type} (e : α) (K : α → Prop) : Prop where
  go : K e
theorem zE1 {α : Type} {e : α} {K : α → Prop} (h : Ey e K) : Ev e K := ⟨h.go⟩
structure K3 (K : AV → Heap → Nat → Prop) (o : Out) : Prop where
  go : ∃ v h n, o = some (v, h, n) ∧ K v h n
structure K1 {α : Type} (K : α → Prop) (o : Option α) : Prop where
  go : ∃ a, o = some a ∧ K a
structure K2 {α β : Type} (K : α → β → Prop) (o : Option (α × β)) : Prop where
  go : ∃ a b, o = some (a, b) ∧ K a b
structure KB (K : Bool → Prop) (o : AV) : Prop where
  go : ∃ t, o = .sc (.bool t) ∧ K t
structure K0 {α : Type} (K : α → Prop) (e : α) : Prop where
  go : K e
structure KT (p : Prop) (b : Bool) : Prop where
  go : b = true ∧ p
structure KQ (p : Prop) (q : Prop) : Prop where
  go : q ∧ p
theorem zE3 {K : AV → Heap → Nat → Prop} {v : AV} {h : Heap} {n : Nat} (hk : K v h n) : Ey (some (v, h, n)) (K3 K) := ⟨⟨v, h, n, rfl, hk⟩⟩
theorem zE2 {α β : Type} {K : α → β → Prop} {a : α} {b : β} (hk : K a b) : Ey (some (a, b)) (K2 K) := ⟨⟨a, b, rfl, hk⟩⟩
theorem zE4 {α : Type} {K : α → Prop} {a : α} (hk : K a) : Ey (some a) (K1 K) := ⟨⟨a, rfl, hk⟩⟩
theorem zE5 {K : Bool → Prop} {t : Bool} (hk : K t) : Ey (AV.sc (.bool t)) (KB K) := ⟨⟨t, rfl, hk⟩⟩
theorem zE6 {α : Type} {K : α → Prop} {e : α} (hk : K e) : Ey e (K0 K) := ⟨⟨hk⟩⟩
theorem zE7 {p : Prop} (hk : p) : Ey true (KT p) := ⟨⟨rfl, hk⟩⟩
theorem zE8 {p : Prop} (hk : p) : Ey True (KQ p) := ⟨⟨trivial, hk⟩⟩
def isCall : Op → Bool
  | .call { callee := .value _, args := _, argTypes := _ } => true
  | _ => false
theorem isCall_no {o : Op} (h : isCall o = false) : ∀ f as ts, o ≠ .call { callee := .value f, args := as, argTypes := ts } := by
  rintro f as ts rfl
  simp [isCall] at h
theorem vb_le {P : Program} {b : Builtin} {ts : List TypeId} {args : List AV} {h h' : Heap} {n n' : Nat} {v : AV} (hv : vbuiltin P b ts args h n = some (v, h', n')) : n ≤ n' := by
  unfold vbuiltin at hv
  split at hv
  · split at hv <;> simp_all
  · split at hv <;> try contradiction
    split at hv <;> try contradiction
    split at hv <;> try contradiction
    split at hv
    · split at hv <;> try contradiction
      split at hv <;> simp only [Option.some.injEq, Prod.mk.injEq] at hv <;> omega
    · split at hv <;> try contradiction
      split at hv <;> try contradiction
      simp only [Option.some.injEq, Prod.mk.injEq] at hv
      omega
    · contradiction
  · split at hv <;> try contradiction
    split at hv <;> try contradiction
    split at hv <;> try contradiction
    simp only [Option.some.injEq, Prod.mk.injEq] at hv
    omega
  · simp only [Option.map_eq_some_iff] at hv
    obtain ⟨_, _, h⟩ := hv
    simp only [Prod.mk.injEq] at h
    omega
  · simp only [Option.map_eq_some_iff] at hv
    obtain ⟨_, _, h⟩ := hv
    simp only [Prod.mk.injEq] at h
    omega
  · contradiction
theorem vop_le {P : Program} {ρ : Operand → AV} {h h' : Heap} {n n' : Nat} {o : Op} {v : AV} (hv : vop P ρ h n o = some (v, h', n')) : n ≤ n' := by
  unfold vop at hv
  split at hv
  all_goals first
    | exact vb_le hv
    | (repeat' split at hv) <;> first
      | contradiction
      | (simp only [Option.some.injEq, Prod.mk.injEq, Option.map_eq_some_iff] at hv; omega)
      | (simp only [Option.map_eq_some_iff, Prod.mk.injEq] at hv; obtain ⟨_, _, hq⟩ := hv; omega)
section
variable {C : Cfg} {nt : Nat} {rd : Bool} {s : St} {h h' : Heap} {n n' : Nat} {T T' : Nat → AV} {ops : Array Oper} {o : Oper} {l : List Oper} {v : AV} {a b : Code} {id j : Nat}
theorem hn1 {b : Bool} : ((!b) = true) = (b = false) := Bool.not_eq_true' b
theorem hn2 {b : Bool} : ((!b) = false) = (b = true) := Bool.not_eq_false' b
theorem hn3 {p : Prop} [Decidable p] : (decide p = true) = p := decide_eq_true_eq
theorem hn4 {p : Prop} [Decidable p] : (decide p = false) = ¬ p := propext decide_eq_false_iff_not
theorem w_sr {Q : Ex → St → Prop} (hw : Gw C nt ops ops.toList s (fun s => Gc C nt rd b s Q)) : Gc C nt rd (.seq (.region id ops false) b) s Q := st_seq (st_region hw)
theorem w_seq {Q : Ex → St → Prop} (hw : Gc C nt rd a s (onNorm (fun s => Gc C nt rd b s Q) Q)) : Gc C nt rd (.seq a b) s Q := st_seq hw
structure Gb (t : Bool) (A B : Prop) : Prop where
  go : (t = true → A) ∧ (t = false → B)
theorem b_t {A B : Prop} (h : A) : Gb true A B := ⟨fun _ => h, fun e => by cases e⟩
theorem b_f {A B : Prop} (h : B) : Gb false A B := ⟨(fun e => by cases e), fun _ => h⟩
theorem b_s {t : Bool} {A B : Prop} (h1 : t = true → A) (h2 : t = false → B) : Gb t A B := ⟨h1, h2⟩
theorem w_cond {c : Operand} {Q : Ex → St → Prop} (hc : Ev (val C s.T c) (KB fun t => Gb t (Gc C nt rd a s Q) (Gc C nt rd b s Q))) : Gc C nt rd (.cond c a b) s Q := by
  obtain ⟨t, h1, h2⟩ := hc.go.go
  exact st_cond h1 h2.go.1 h2.go.2
theorem w_wr {rs : Array ResultVar} {Q : AV → Heap → Nat → Prop} (hv : Ev (retsA C s.T s.h rs.toList) (K1 fun vs => Q (one1 vs) s.h s.n)) : Wr C rs Q .ret s := by
  obtain ⟨vs, h1, h2⟩ := hv.go.go
  exact st_wr h1 h2
theorem w_wn {rs : Array ResultVar} {Q : AV → Heap → Nat → Prop} (hv : Ev (retsA C s.T s.h rs.toList) (K1 fun vs => Q (one1 vs) s.h s.n)) : Wr C rs Q .norm s := by
  obtain ⟨vs, h1, h2⟩ := hv.go.go
  exact st_wrn h1 h2
structure Gx (C : Cfg) (nt : Nat) (T : Nat → AV) (dst : Option Tmp) (ops : Array Oper) (l : List Oper) (Q : St → Prop) (v : AV) (h' : Heap) (n' : Nat) : Prop where
  go : ∃ T', putT nt T dst v = some T' ∧ Gw C nt ops l ⟨T', h', n'⟩ Q
theorem x_p {Q : St → Prop} {dst : Option Tmp} (hp : putT nt T dst v = some T') (hw : Gw C nt ops l ⟨T', h', n'⟩ Q) : Gx C nt T dst ops l Q v h' n' := ⟨⟨T', hp, hw⟩⟩
structure Go' (C : Cfg) (nt : Nat) (ops : Array Oper) (o : Oper) (l : List Oper) (T : Nat → AV) (h : Heap) (n : Nat) (Q : St → Prop) : Prop where
  go : goes ops T o = some true → Gw C nt ops (o :: l) ⟨T, h, n⟩ Q
structure Gg (C : Cfg) (nt : Nat) (ops : Array Oper) (o : Oper) (l : List Oper) (T : Nat → AV) (h : Heap) (n : Nat) (Q : St → Prop) (b : Bool) : Prop where
  go : goes ops T o = some b → Gw C nt ops (o :: l) ⟨T, h, n⟩ Q
theorem o_op {Q : St → Prop} (hc : isCall o.op = false) (hv : Ev (vop C.P (val C T) h n o.op) (K3 (Gx C nt T o.dst ops l Q))) : Go' C nt ops o l T h n Q := by
  obtain ⟨v, h', n', h1, h2⟩ := hv.go.go
  obtain ⟨T', h3, h4⟩ := h2.go
  exact ⟨fun hg => st_op hg (isCall_no hc) h1 (vop_le h1) h3 h4⟩
theorem w_on {Q : St → Prop} (hg : o.guard = none) (hw : Go' C nt ops o l T h n Q) : Gw C nt ops (o :: l) ⟨T, h, n⟩ Q := hw.go (by simp only [goes, hg])
theorem w_op {Q : St → Prop} (hg : o.guard = none) (hc : isCall o.op = false) (hv : Ev (vop C.P (val C T) h n o.op) (K3 (Gx C nt T o.dst ops l Q))) : Gw C nt ops (o :: l) ⟨T, h, n⟩ Q := w_on hg (o_op hc hv)
theorem w_gd {Q : St → Prop} {q : Nat × Bool} (_hq : o.guard = some q) (hg : Ev (goes ops T o) (K1 (Gg C nt ops o l T h n Q))) : Gw C nt ops (o :: l) ⟨T, h, n⟩ Q := by
  obtain ⟨b, h1, h2⟩ := hg.go.go
  exact h2.go h1
theorem g_t {Q : St → Prop} (hw : Go' C nt ops o l T h n Q) : Gg C nt ops o l T h n Q true := ⟨hw.go⟩
theorem g_f {Q : St → Prop} (hp : putT nt T o.dst (.tup []) = some T') (hw : Gw C nt ops l ⟨T', h, n⟩ Q) : Gg C nt ops o l T h n Q false := ⟨fun hg => st_off hg hp hw⟩
theorem g_s {Q : St → Prop} {b : Bool} (h1 : b = true → Gw C nt ops (o :: l) ⟨T, h, n⟩ Q) (h2 : b = false → Gw C nt ops (o :: l) ⟨T, h, n⟩ Q) : Gg C nt ops o l T h n Q b := ⟨fun hg => st_gs hg h1 h2⟩
def cArgs (C : Cfg) (T : Nat → AV) (f : Operand) (as : Array Operand) : Option (FuncId × List AV) :=
  match val C T f with
  | .fn (.func g) caps => some (g, as.toList.map (val C T) ++ caps)
  | _ => none
theorem cArgs_iff {f : Operand} {as : Array Operand} {g : FuncId} {all : List AV} (h : cArgs C T f as = some (g, all)) : ∃ caps, val C T f = .fn (.func g) caps ∧ all = as.toList.map (val C T) ++ caps := by
  unfold cArgs at h
  split at h
  · rename_i g' caps e
    simp only [Option.some.injEq, Prod.mk.injEq] at h
    obtain ⟨rfl, rfl⟩ := h
    exact ⟨caps, e, rfl⟩
  · cases h
structure Gk (C : Cfg) (d : Bool) (h : Heap) (n : Nat) (K : AV → List Nat → Heap → Nat → Prop) (g : FuncId) (all : List AV) : Prop where
  go : ∃ k v tch h' n', (if d then dcall C (lv C k).fc g all h n = some (v, tch, h', n') else anycall C (lv C k).fc g all h n = some (v, h', n')) ∧ K v tch h' n'
theorem o_call {Q : St → Prop} {f : Operand} {as : Array Operand} {ts : Array TypeId} (hop : o.op = .call { callee := .value f, args := as, argTypes := ts })
    (hw : Ev (cArgs C T f as) (K2 (Gk C false h n (fun v _ h' n' => Gn C nt n T o.dst ops l Q v h' n')))) : Go' C nt ops o l T h n Q := by
  refine ⟨fun hg => ?_⟩
  obtain ⟨g, all, ha, hw⟩ := hw.go.go
  obtain ⟨caps, hf, rfl⟩ := cArgs_iff ha
  obtain ⟨k, v, tch, h', n', h1, h2⟩ := hw.go
  simp only [Bool.false_eq_true, if_false] at h1
  refine ⟨Wo_call hop hg hf rfl ⟨k, v, h', n', h1, h2.le, ?_⟩⟩
  have := h2.go
  simp only [Gw_eq] at this
  exact this
theorem o_cl {Q : St → Prop} {f : Operand} {as : Array Operand} {ts : Array TypeId} (hop : o.op = .call { callee := .value f, args := as, argTypes := ts })
    (hw : Ey (cArgs C T f as) (K2 (Gk C false h n (fun v _ h' n' => Gn C nt n T o.dst ops l Q v h' n')))) : Go' C nt ops o l T h n Q := o_call hop (zE1 hw)
theorem w_cl {Q : St → Prop} {f : Operand} {as : Array Operand} {ts : Array TypeId} (hg : o.guard = none) (hop : o.op = .call { callee := .value f, args := as, argTypes := ts })
    (hw : Ey (cArgs C T f as) (K2 (Gk C false h n (fun v _ h' n' => Gn C nt n T o.dst ops l Q v h' n')))) : Gw C nt ops (o :: l) ⟨T, h, n⟩ Q := w_on hg (o_cl hop hw)
theorem n_0 {Q : St → Prop} {dst : Option Tmp} (hp : putT nt T dst v = some T') (hw : Gw C nt ops l ⟨T', h', n⟩ Q) : Gn C nt n T dst ops l Q v h' n := st_gn (Nat.le_refl _) hp hw
theorem n_1 {Q : St → Prop} {dst : Option Tmp} (hn : n ≤ n') (hp : putT nt T dst v = some T') (hw : Gw C nt ops l ⟨T', h', n'⟩ Q) : Gn C nt n T dst ops l Q v h' n' := st_gn hn hp hw
variable {d : Bool} {g : FuncId} {all fz : List AV} {K : AV → List Nat → Heap → Nat → Prop} {r : AV} {ids : List Nat}
theorem k_p (hi : (C.inl g || C.own g) = false) (ho : C.orc g = none) (hb : all.all noBox = true) (hr : purs all = true) (hc : Pc C g all r) (hw : K r [] h n) : Gk C d h n K g all := by
  obtain ⟨k, hk⟩ := hc
  refine ⟨k, r, [], h, n, ?_, hw⟩
  obtain ⟨hi, hown⟩ := orF hi
  cases d <;> simp only [dcall, anycall, orcTry, ho, hi, hown, hb, if_true, mapF_purs h 63 hr, hk, shut_nil, Bool.false_eq_true, if_false, ite_self]
structure Gz (C : Cfg) (d : Bool) (h : Heap) (n : Nat) (K : AV → List Nat → Heap → Nat → Prop) (g : FuncId) (all : List AV) (fz : List AV) (ids : List Nat) : Prop where
  go : all.all noBox = true → mapF (frz h 64) all = some (fz, ids) → Gk C d h n K g all
theorem k_z (hb : all.all noBox = true) (hm : Ev (mapF (frz h 64) all) (K2 (Gz C d h n K g all))) : Gk C d h n K g all := by
  obtain ⟨fz, ids, h1, h2⟩ := hm.go.go
  exact h2.go hb h1
theorem z_f (hi : (C.inl g || C.own g) = false) (ho : C.orc g = none) (hc : Pc C g fz r) (hfl : r.flat = true) (hw : K r [] h n) : Gz C d h n K g all fz ids := by
  obtain ⟨k, hk⟩ := hc
  refine ⟨fun hb hm => ⟨k, r, [], h, n, ?_, hw⟩⟩
  obtain ⟨hi, hown⟩ := orF hi
  cases d <;> simp only [dcall, anycall, orcTry, ho, hi, hown, hb, if_true, hm, hk, hfl, Bool.false_eq_true, if_false]
theorem z_g (hi : (C.inl g || C.own g) = false) (ho : C.orc g = none) (hc : Pc C g fz r) (hfl : r.flat = false) (hw : K r ids (shutIds h ids) n) : Gz C d h n K g all fz ids := by
  obtain ⟨k, hk⟩ := hc
  refine ⟨fun hb hm => ⟨k, r, ids, shutIds h ids, n, ?_, hw⟩⟩
  obtain ⟨hi, hown⟩ := orF hi
  cases d <;> simp only [dcall, anycall, orcTry, ho, hi, hown, hb, if_true, hm, hk, hfl, Bool.false_eq_true, if_false]
theorem k_o {F : List AV → Option AV} (ho : C.orc g = some F) (hb : all.all noBox = true) (hr : purs all = true) (hF : Ev (F all) (K1 fun r => K r [] h n)) : Gk C d h n K g all := by
  obtain ⟨r, hF, hw⟩ := hF.go.go
  refine ⟨0, r, [], h, n, ?_, hw⟩
  cases d <;> simp only [dcall, anycall, orcTry, hr, Bool.not_true, Bool.and_false, ho, hb, if_true, mapF_purs h 63 hr, hF, Option.map_some, shut_nil, Bool.false_eq_true, if_false, ite_self]
theorem k_w {K : AV → Heap → Nat → Prop} (hi : (C.inl g || !all.all noBox) = true) (ho : orcTry C g all h = none) (hw : Gf C g all h n K) : Gk C false h n (fun v _ h' n' => K v h' n') g all := by
  obtain ⟨k, v, h', n', h1, h2⟩ := hw.go
  refine ⟨k, v, [], h', n', ?_, h2⟩
  simp only [anycall, ho, Bool.false_eq_true, if_false]
  cases hq : C.inl g with
  | true => simpa using h1
  | false =>
    rw [hq, Bool.false_or] at hi
    have hb : all.all noBox = false := by rw [← Bool.not_eq_true', hi]
    simp only [hb, Bool.false_eq_true, if_false, ite_self]
    exact h1
theorem k_i {K : AV → Heap → Nat → Prop} (hi : C.inl g = true) (ho : orcTry C g all h = none) (hc : ∃ k, (lv C k).fc g all h n = some (r, h', n')) (hw : K r h' n') : Gk C false h n (fun v _ h' n' => K v h' n') g all := by
  obtain ⟨k, hk⟩ := hc
  exact k_w (by simp [hi]) ho ⟨⟨k, r, h', n', hk, hw⟩⟩
theorem k_n {Q : AV → Heap → Nat → Prop} (hi : C.inl g = false) (hown : C.own g = true) (ho : orcTry C g all h = none) (hb : all.all noBox = true) (hr : purs all = true) (hc : Gf C g all noHeap 0 Q)
    (hw : ∀ r h1 n1, Q r h1 n1 → K (r.sh n) (List.range' n n1) (joinH h n n1 h1) (n + n1)) : Gk C d h n K g all := by
  obtain ⟨k, r, h1, n1, hk, hq⟩ := hc.go
  have hs : shutC h [] r h1 = h := by unfold shutC; rw [shut_nil, ite_self]
  refine ⟨k, r.sh n, List.range' n n1, joinH h n n1 h1, n + n1, ?_, hw r h1 n1 hq⟩
  cases d <;> simp only [dcall, anycall, ho, hi, hown, hb, if_true, mapF_purs h 63 hr, hk, hs, Bool.false_eq_true, if_false, List.nil_append]
theorem k_nz (hi : C.inl g = false) (hown : C.own g = true) (ho : orcTry C g all h = none) (hb : all.all noBox = true) {Q : AV → Heap → Nat → Prop} (hm : mapF (frz h 64) all = some (fz, ids)) (hc : Gf C g fz noHeap 0 Q)
    (hw : ∀ r h1 n1, Q r h1 n1 → K (r.sh n) (ids ++ List.range' n n1) (joinH (shutC h ids r h1) n n1 h1) (n + n1)) : Gk C d h n K g all := by
  obtain ⟨k, r, h1, n1, hk, hq⟩ := hc.go
  refine ⟨k, r.sh n, ids ++ List.range' n n1, joinH (shutC h ids r h1) n n1 h1, n + n1, ?_, hw r h1 n1 hq⟩
  cases d <;> simp only [dcall, anycall, ho, hi, hown, hb, if_true, hm, hk, Bool.false_eq_true, if_false]
theorem k_d {h1 : Heap} (hi : C.inl g = true) (ho : orcTry C g all h = none) (hr : purs all = true) (hc : ∃ k, (lv C k).fc g all noHeap n = some (r, h1, n'))
    (hw : Ev (List.range' n (n' - n)) (K0 fun tch => K r tch (fun b => if n ≤ b ∧ b < n' then h1 b else h b) n')) : Gk C true h n K g all := by
  obtain ⟨k, hk⟩ := hc
  refine ⟨k, r, _, _, n', ?_, hw.go.go⟩
  simp only [dcall, ho, hi, if_true, hr, hk]
theorem z_of {F : List AV → Option AV} (hi : C.inl g = false) (ho : C.orc g = some F) (hc : F fz = some r) (hfl : r.flat = true) (hw : K r [] h n) : Gz C d h n K g all fz ids := by
  refine ⟨fun hb hm => ⟨0, r, [], h, n, ?_, hw⟩⟩
  cases d <;> simp only [dcall, anycall, orcTry, ho, hi, hb, if_true, hm, hc, hfl, Option.map_some, Bool.false_and, Bool.false_eq_true, if_false]
theorem z_og {F : List AV → Option AV} (hi : C.inl g = false) (ho : C.orc g = some F) (hc : F fz = some r) (hfl : r.flat = false) (hw : K r ids (shutIds h ids) n) : Gz C d h n K g all fz ids := by
  refine ⟨fun hb hm => ⟨0, r, ids, shutIds h ids, n, ?_, hw⟩⟩
  cases d <;> simp only [dcall, anycall, orcTry, ho, hi, hb, if_true, hm, hc, hfl, Option.map_some, Bool.false_and, Bool.false_eq_true, if_false]
theorem k_eg {Q : AV → Heap → Prop} (hi : C.inl g = true) (ho : orcTry C g all h = none) (hr : purs all = false) (hc : Gf C g all (cutH (rootss all) h) n fun v h1 n1 => n1 = n' ∧ Q v h1)
    (hw : ∀ r h1, Q r h1 → K r (rootss all ++ List.range' n (n' - n)) (fun b => if (rootss all).contains b = true ∨ (n ≤ b ∧ b < n') then h1 b else h b) n') : Gk C true h n K g all := by
  obtain ⟨k, r, h1, n1, hk, rfl, hq⟩ := hc.go
  refine ⟨k, r, _, _, n1, ?_, hw r h1 hq⟩
  simp only [dcall, ho, hi, if_true, hr, Bool.false_eq_true, if_false, hk]
theorem k_e {h1 : Heap} (hi : C.inl g = true) (ho : orcTry C g all h = none) (hr : purs all = false) (hc : ∃ k, (lv C k).fc g all (cutH (rootss all) h) n = some (r, h1, n'))
    (hw : Ev (rootss all ++ List.range' n (n' - n)) (K0 fun tch => K r tch (fun b => if (rootss all).contains b = true ∨ (n ≤ b ∧ b < n') then h1 b else h b) n')) : Gk C true h n K g all := by
  obtain ⟨k, hk⟩ := hc
  refine ⟨k, r, _, _, n', ?_, hw.go.go⟩
  simp only [dcall, ho, hi, if_true, hr, Bool.false_eq_true, if_false, hk]
variable {all' : Nat → List Nat} {T0 : Nat → AV} {h0 : Heap} {hides : Nat → List Nat} {i : Nat} {recs : Recs} {Q : Recs → Nat → Prop} {pre tch : List Nat}
def dT (al : List Nat) (T0 : Nat → AV) (pre : List Nat) (recs : Recs) : Nat → AV := tAt T0 al (fun j => pre.contains j) recs
def dH (h0 : Heap) (hs pre : List Nat) (recs : Recs) : Heap := hHide hs (hAt h0 (fun j => pre.contains j) recs)
structure Gp (C : Cfg) (ops : Array Oper) (all : Nat → List Nat) (T0 : Nat → AV) (h0 : Heap) (hides : Nat → List Nat) (o : Oper) (l : List Oper) (i : Nat) (recs : Recs) (n : Nat) (Q : Recs → Nat → Prop) (pre : List Nat) : Prop where
  go : ((bindOn o).all fun j => decide (j < i)) = true → preOf recs (bindOn o) = pre → Gd C ops all T0 h0 hides (o :: l) i recs n Q
structure Gpo (C : Cfg) (ops : Array Oper) (all : Nat → List Nat) (T0 : Nat → AV) (h0 : Heap) (hides : Nat → List Nat) (o : Oper) (l : List Oper) (i : Nat) (recs : Recs) (n : Nat) (Q : Recs → Nat → Prop) (pre : List Nat) : Prop where
  go : ((bindOn o).all fun j => decide (j < i)) = true → preOf recs (bindOn o) = pre → goes ops (dT (all i) T0 pre recs) o = some true → Gd C ops all T0 h0 hides (o :: l) i recs n Q
structure Gpg (C : Cfg) (ops : Array Oper) (all : Nat → List Nat) (T0 : Nat → AV) (h0 : Heap) (hides : Nat → List Nat) (o : Oper) (l : List Oper) (i : Nat) (recs : Recs) (n : Nat) (Q : Recs → Nat → Prop) (pre : List Nat) (b : Bool) : Prop where
  go : ((bindOn o).all fun j => decide (j < i)) = true → preOf recs (bindOn o) = pre → goes ops (dT (all i) T0 pre recs) o = some b → Gd C ops all T0 h0 hides (o :: l) i recs n Q
theorem d_c (hb : ((bindOn o).all fun j => decide (j < i)) = true) (hp : Ev (preOf recs (bindOn o)) (K0 (Gp C ops all' T0 h0 hides o l i recs n Q))) : Gd C ops all' T0 h0 hides (o :: l) i recs n Q := hp.go.go.go hb rfl
theorem d_on (hg : o.guard = none) (hw : Gpo C ops all' T0 h0 hides o l i recs n Q pre) : Gp C ops all' T0 h0 hides o l i recs n Q pre := ⟨fun hb hp => hw.go hb hp (by simp only [goes, hg])⟩
theorem d_gd {q : Nat × Bool} (_hq : o.guard = some q) (hg : Ev (goes ops (dT (all' i) T0 pre recs) o) (K1 (Gpg C ops all' T0 h0 hides o l i recs n Q pre))) : Gp C ops all' T0 h0 hides o l i recs n Q pre := by
  obtain ⟨b, h1, h2⟩ := hg.go.go
  exact ⟨fun hb hp => h2.go hb hp h1⟩
theorem d_t (hw : Gpo C ops all' T0 h0 hides o l i recs n Q pre) : Gpg C ops all' T0 h0 hides o l i recs n Q pre true := ⟨hw.go⟩
theorem d_f (hw : Gd C ops all' T0 h0 hides l (i + 1) ((i, ⟨pre, o.dst, .tup [], [], n, n⟩) :: recs) n Q) : Gpg C ops all' T0 h0 hides o l i recs n Q pre false := ⟨fun hb hp hg => gd_off hb hp hg hw⟩
theorem d_s {b : Bool} (h1 : b = true → Gp C ops all' T0 h0 hides o l i recs n Q pre) (h2 : b = false → Gp C ops all' T0 h0 hides o l i recs n Q pre) : Gpg C ops all' T0 h0 hides o l i recs n Q pre b := by
  refine ⟨fun hb hp _ => ?_⟩
  cases b with
  | true => exact (h1 rfl).go hb hp
  | false => exact (h2 rfl).go hb hp
structure Gy (C : Cfg) (ops : Array Oper) (all : Nat → List Nat) (T0 : Nat → AV) (h0 : Heap) (hides : Nat → List Nat) (o : Oper) (l : List Oper) (i : Nat) (recs : Recs) (n : Nat) (Q : Recs → Nat → Prop) (pre : List Nat) (v : AV) (h' : Heap) (n' : Nat) : Prop where
  go : Ev (touch (val C (dT (all i) T0 pre recs)) n n' o.op) (K0 fun tch => Ev (tch.all fun b => !(hides i).contains b) (KT (Gd C ops all T0 h0 hides l (i + 1) ((i, ⟨pre, o.dst, v, tch.map fun b => (b, h' b), n, n'⟩) :: recs) n' Q)))
theorem d_y (h : Ev (touch (val C (dT (all' i) T0 pre recs)) n n' o.op) (K0 fun tch => Ev (tch.all fun b => !(hides i).contains b) (KT (Gd C ops all' T0 h0 hides l (i + 1) ((i, ⟨pre, o.dst, v, tch.map fun b => (b, h' b), n, n'⟩) :: recs) n' Q)))) : Gy C ops all' T0 h0 hides o l i recs n Q pre v h' n' := ⟨h⟩
theorem d_op (hc : isCall o.op = false) (hv : Ev (vop C.P (val C (dT (all' i) T0 pre recs)) (dH h0 (hides i) pre recs) n o.op) (K3 (Gy C ops all' T0 h0 hides o l i recs n Q pre))) : Gpo C ops all' T0 h0 hides o l i recs n Q pre := by
  obtain ⟨v, h', n', h1, h2⟩ := hv.go.go
  have h3 := h2.go.go.go.go.go
  exact ⟨fun hb hp hg => gd_op hb hp hg (isCall_no hc) h1 (vop_le h1) rfl h3.1 h3.2⟩
structure Gdn (pre : List Nat) (C : Cfg) (ops : Array Oper) (all : Nat → List Nat) (T0 : Nat → AV) (h0 : Heap) (hides : Nat → List Nat) (dst : Option Tmp) (l : List Oper) (i : Nat) (recs : Recs) (n : Nat) (Q : Recs → Nat → Prop) (v : AV) (tch : List Nat) (h' : Heap) (n' : Nat) : Prop where
  le : n ≤ n'
  tc : (tch.all fun b => !(hides i).contains b) = true
  go : Gd C ops all T0 h0 hides l (i + 1) ((i, ⟨pre, dst, v, tch.map fun b => (b, h' b), n, n'⟩) :: recs) n' Q
theorem d_n {dst : Option Tmp} (hw : Gd C ops all' T0 h0 hides l (i + 1) ((i, ⟨pre, dst, v, [], n, n⟩) :: recs) n Q) : Gdn pre C ops all' T0 h0 hides dst l i recs n Q v [] h' n := ⟨Nat.le_refl _, rfl, hw⟩
theorem d_m {dst : Option Tmp} (hn : n ≤ n') (htc : Ev (tch.all fun b => !(hides i).contains b) (KT (Gd C ops all' T0 h0 hides l (i + 1) ((i, ⟨pre, dst, v, tch.map fun b => (b, h' b), n, n'⟩) :: recs) n' Q))) : Gdn pre C ops all' T0 h0 hides dst l i recs n Q v tch h' n' := ⟨hn, htc.go.go.1, htc.go.go.2⟩
theorem d_call {f : Operand} {as : Array Operand} {ts : Array TypeId} (hop : o.op = .call { callee := .value f, args := as, argTypes := ts })
    (hw : Ev (cArgs C (dT (all' i) T0 pre recs) f as) (K2 (Gk C true (dH h0 (hides i) pre recs) n (Gdn pre C ops all' T0 h0 hides o.dst l i recs n Q)))) : Gpo C ops all' T0 h0 hides o l i recs n Q pre := by
  refine ⟨fun hb hp hg => ?_⟩
  obtain ⟨g, all, ha, hw⟩ := hw.go.go
  obtain ⟨caps, hf, rfl⟩ := cArgs_iff ha
  obtain ⟨k, v, tch, h', n', h1, h2⟩ := hw.go
  obtain ⟨k2, R, nE, h3, h4⟩ := h2.go.go
  refine ⟨max k k2, R, nE, ?_, h4⟩
  have g1 := dgo_up (C := C) (lv_up (Nat.le_max_right k k2)).1 _ _ h3
  simp only [if_true] at h1
  have g2 := dcall_up (C := C) (lv_up (Nat.le_max_left k k2)).1 _ h1
  have hd : dstep C (lv C (max k k2)).fc (val C (dT (all' i) T0 pre recs)) (dH h0 (hides i) pre recs) n o.op = some (v, tch, h', n') := by
    rw [hop]
    unfold dstep
    simp only [hf, g2]
  simp only [dgo]
  rw [if_pos hb, hp]
  unfold dT dH at *
  rw [hg]
  simp only [hd]
  rw [if_pos ⟨h2.le, h2.tc⟩]
  exact g1
theorem d_cl {f : Operand} {as : Array Operand} {ts : Array TypeId} (hop : o.op = .call { callee := .value f, args := as, argTypes := ts })
    (hw : Ey (cArgs C (dT (all' i) T0 pre recs) f as) (K2 (Gk C true (dH h0 (hides i) pre recs) n (Gdn pre C ops all' T0 h0 hides o.dst l i recs n Q)))) : Gpo C ops all' T0 h0 hides o l i recs n Q pre := d_call hop (zE1 hw)
theorem d_nil (hq : Q recs n) : Gd C ops all' T0 h0 hides [] i recs n Q := gd_nil hq
structure Gq (Q : Prop) (R : Recs) : Prop where
  go : (R.all fun x => x.2.ups.isEmpty) = true ∧ Q
theorem d_q {R : Recs} {A : Prop} (h1 : Ev (R.all fun x => x.2.ups.isEmpty) (KT A)) : Gq A R := ⟨h1.go.go⟩
structure Gu (d : Bool) (C : Cfg) (nt : Nat) (rd : Bool) (id : Nat) (ops : Array Oper) (s : St) (Q : Ex → St → Prop) (L : List (List Nat)) : Prop where
  go : openL ops = L → Gc C nt rd (.region id ops true) s Q
structure Er {α : Type} (e : α) (K : α → Prop) : Prop where
  go : K e
theorem zR1 {α : Type} {e : α} {K : α → Prop} (h : K e) : Er e K := ⟨h⟩
theorem w_u (d : Bool) {Q : Ex → St → Prop} (hall : Er (openL ops) (Gu d C nt rd id ops s Q)) : Gc C nt rd (.region id ops true) s Q := hall.go.go rfl
theorem w_dr {Q : Ex → St → Prop} {L : List (List Nat)} (hnd : nodupB (ops.toList.filterMap (·.dst)) = true)
    (hw : Gd C ops (pick L) s.T s.h (fun _ => []) ops.toList 0 [] s.n fun R nE => Gq (Q .norm ⟨tAt s.T [] (fun _ => true) R, s.h, nE⟩) R) : Gu false C nt rd id ops s Q L := by
  refine ⟨fun hL => st_draw hL hnd ?_⟩
  obtain ⟨k, R, nE, h1, h2⟩ := hw.go
  exact ⟨k, R, nE, h1, h2.go⟩
structure Ge (R' : Recs) (A : Prop) (R : Recs) : Prop where
  go : R.map sk = R'.map sk ∧ A
theorem d_e {R R' : Recs} {A : Prop} (h1 : Ev (R.map sk = R'.map sk) (KQ A)) : Ge R' A R := ⟨h1.go.go⟩
def incsL (ops : Array Oper) (R : Recs) : List (List Nat) := (List.range ops.size).map (incs R)
structure Mi (C : Cfg) (ops : Array Oper) (all : Nat → List Nat) (s : St) (Q : Ex → St → Prop) (R1 : Recs) : Prop where
  go : Mid C ops all s Q R1
structure Mj (C : Cfg) (ops : Array Oper) (all : Nat → List Nat) (s : St) (Q : Ex → St → Prop) (R1 : Recs) (L : List (List Nat)) : Prop where
  go : incsL ops R1 = L → Mid C ops all s Q R1
theorem d_mid {Q : Ex → St → Prop} {R1 : Recs} (hL : Ev (incsL ops R1) (K0 (Mj C ops all' s Q R1))) : Mi C ops all' s Q R1 := ⟨hL.go.go.go rfl⟩
theorem d_mj {Q : Ex → St → Prop} {R1 : Recs} {L : List (List Nat)}
    (hw : Gd C ops all' s.T s.h (pick L) ops.toList 0 [] s.n fun R2 nE => Ge R1 (Q .norm ⟨tAt s.T [] (fun _ => true) R2, hAt s.h (fun _ => true) R2, nE⟩) R2) : Mj C ops all' s Q R1 L := by
  refine ⟨fun hL => gd_mid hL ?_⟩
  obtain ⟨k, R, nE, h1, h2⟩ := hw.go
  exact ⟨k, R, nE, h1, h2.go⟩
theorem w_dg {Q : Ex → St → Prop} {L : List (List Nat)} (hnd : nodupB (ops.toList.filterMap (·.dst)) = true)
    (hw : Gd C ops (pick L) s.T s.h (fun _ => []) ops.toList 0 [] s.n fun R1 _ => Mi C ops (pick L) s Q R1) : Gu true C nt rd id ops s Q L := by
  refine ⟨fun hL => st_drawG hL hnd ?_⟩
  obtain ⟨k, R, nE, h1, h2⟩ := hw.go
  exact ⟨k, R, nE, h1, h2.go⟩
theorem w_fn {f : FuncId} {fn : Func} {c : Code} {args : List AV} {Q : AV → Heap → Nat → Prop} (hf : C.P.funcs[f]? = some fn) (hc : fn.body = some c) (hok : codeOk fn.ntmps c = true) (ha : Nat.ble args.length fn.ntmps = true)
    (hw : Gc C fn.ntmps false c ⟨argsT args, h, n⟩ (Wr C fn.results Q)) : Gf C f args h n Q := Gf_enter hf hc hok (Nat.le_of_ble_eq_true ha) hw
end
def vb0 (P : Program) (b : Builtin) (ts : List TypeId) (args : List AV) (h : Heap) (n : Nat) : Out := vbuiltin P b ts args h n
def mk0 (P : Program) (ρ : Operand → AV) (h : Heap) (n : Nat) (t : TypeId) (l c : Operand) : Out := vop P ρ h n (.makeSlice t l c)
def cv0 (P : Program) (src dst : TypeId) (k0 : IntKind) (a : Int) : Option AV := (pureRun P (convert src dst (.int k0 a))).bind scal
def infoQ (P : Program) (e : TypeId) : Option (Nat × Nat × Option Nat) := (P.info? e).map fun i => (i.size, i.bytes, i.zero.map fun z => z.cells.size)
theorem infoQ_is {P : Program} {e sz by_ : Nat} (h : infoQ P e = some (sz, by_, some sz)) : InfoIs P e sz by_ := h
def appM (P : Program) (t xt : TypeId) (s x : AV) (h : Heap) (n : Nat) (o : Out) : Option TypeDesc → Option TypeDesc → Out
  | some (.slice e), some xd =>
    match infoQ P e with
    | some (sz, by_, some sz') => if sz = sz' ∧ 0 < sz then appA sz by_ s (srcOf h xd x) h n else o
    | _ => o
  | _, _ => o
theorem vb_app {P : Program} {t xt : TypeId} {s x : AV} {h : Heap} {n : Nat} : vbuiltin P .append [t, xt] [s, x] h n = appM P t xt s x h n (vb0 P .append [t, xt] [s, x] h n) (P.underlying t) (P.underlying xt) := by
  unfold appM
  split
  · rename_i e xd h1 h2
    split
    · rename_i sz by_ sz' hq
      split
      · rename_i hs
        obtain ⟨rfl, hs⟩ := hs
        exact vb_append h1 h2 (infoQ_is hq) hs
      · rfl
    · rfl
  · rfl
def copyM (P : Program) (d x : AV) (h : Heap) (n : Nat) (o : Out) : Option TypeDesc → Option TypeDesc → Out
  | some (.slice e), some xd =>
    match infoQ P e with
    | some (sz, _, some sz') => if sz = sz' then copyA sz d (srcOf h xd x) h n else o
    | _ => o
  | _, _ => o
theorem vb_cpy {P : Program} {t xt : TypeId} {d x : AV} {h : Heap} {n : Nat} : vbuiltin P .copy [t, xt] [d, x] h n = copyM P d x h n (vb0 P .copy [t, xt] [d, x] h n) (P.underlying t) (P.underlying xt) := by
  unfold copyM
  split
  · rename_i e xd h1 h2
    split
    · rename_i sz by_ sz' hq
      split
      · rename_i hs
        subst hs
        exact vb_copy h1 h2 (infoQ_is hq)
      · rfl
    · rfl
  · rfl
def makeM (P : Program) (l c : AV) (h : Heap) (n : Nat) (o : Out) : Option TypeDesc → Out
  | some (.slice e) =>
    match infoQ P e with
    | some (sz, by_, some sz') => if sz = sz' ∧ 0 < sz then mkA sz by_ (zeroA P e) (asNat l) (asNat c) h n else o
    | _ => o
  | _ => o
theorem vo_mk {P : Program} {ρ : Operand → AV} {t : TypeId} {l c : Operand} {h : Heap} {n : Nat} : vop P ρ h n (.makeSlice t l c) = makeM P (ρ l) (ρ c) h n (mk0 P ρ h n t l c) (P.underlying t) := by
  unfold makeM
  split
  · rename_i e h1
    split
    · rename_i sz by_ sz' hq
      split
      · rename_i hs
        obtain ⟨rfl, hs⟩ := hs
        exact vo_make h1 (infoQ_is hq) hs
      · rfl
    · rfl
  · rfl
def convM (k0 : IntKind) (a : Int) (o : Option AV) : Option TypeDesc → Option TypeDesc → Option AV
  | some _, some (.int k) => some (.sc (.int k (k.wrap a)))
  | _, _ => o
theorem vo_conv {P : Program} {src dst : TypeId} {k0 : IntKind} {a : Int} : (pureRun P (convert src dst (.int k0 a))).bind scal = convM k0 a (cv0 P src dst k0 a) (P.underlying src) (P.underlying dst) := by
  unfold convM
  split
  · rename_i h1 h2
    exact ev_conv h1 h2
  · rfl
end Go.Proofs.Bv
namespace Go.Proofs.Bv
open Go
def frzO (h : Heap) (k : Nat) (o : Option Blk) (b off len : Nat) : Option (AV × List Nat) :=
  match o with
  | some (.cells cs es _) => if off + len * es ≤ cs.length then (mapF (frz h (k + 1)) (cut cs off (len * es))).map fun r => (.psl r.1 len, b :: r.2) else none
  | _ => none
theorem frz_os {h : Heap} {k b off len : Nat} : frz h (k + 2) (.osl b off len) = frzO h k (h b) b off len := by
  rw [frz, if_neg (by simp [AV.pur])]
  unfold frzO
  rfl
theorem frzO_w {h : Heap} {k b len es : Nat} {cs : List AV} {fz : Bool} (hl : cs.length = len * es) (hp : purs cs = true) : frzO h k (some (.cells cs es fz)) b 0 len = some (.psl cs len, [b]) := by
  have e : cut cs 0 (len * es) = cs := by simp [cut, ← hl]
  simp only [frzO, Nat.zero_add, e]
  rw [if_pos (by omega), mapF_purs h k hp]
  rfl
theorem frzO_c {h : Heap} {k b off len es : Nat} {a : AV} {cs : List AV} {fz : Bool} : frzO h k (some (.cells (a :: cs) es fz)) b off len =
    if off + len * es ≤ (a :: cs).length then (mapF (frz h (k + 1)) (cut (a :: cs) off (len * es))).map fun r => (.psl r.1 len, b :: r.2) else none := rfl
theorem frzO_n {h : Heap} {k b off len es : Nat} {fz : Bool} : frzO h k (some (.cells [] es fz)) b off len =
    if off + len * es ≤ 0 then (mapF (frz h (k + 1)) (cut [] off (len * es))).map fun r => (.psl r.1 len, b :: r.2) else none := rfl
theorem cut_nil {o n : Nat} : cut [] o n = [] := by simp [cut]
attribute [go_sem] frz_os frzO_w frzO_c frzO_n cut_nil mapF_purs
attribute [go_sem] val argsT upd_ap if_true if_false ite_true ite_false loadAt loadA
attribute [go_sem] AV.cells AV.one List.all_cons List.all_nil ofV ofCell plain List.getElem?_cons_zero List.getElem?_cons_succ List.getElem?_toArray
attribute [go_sem] Option.getD_some Bool.not_true Bool.not_false Bool.false_eq_true Bool.and_true Bool.true_and Bool.and_self Nat.zero_add Option.map_some Option.bind_some
attribute [go_sem] List.map_cons List.map_nil ev_add ev_sub ev_mul ev_lss ev_leq ev_gtr ev_geq ev_eql
attribute [go_sem] ev_neq ev_seql ev_sneq ev_sleq ev_slss ev_not ev_min ev_max asNat_nat asNat_zero
attribute [go_sem] asNat_one asNat_two asNat_three vb_len List.length_cons List.length_nil decide_true decide_false not_true_eq_false not_false_eq_true
attribute [go_sem] and_self and_true true_and storeA List.take_zero List.drop_succ_cons List.drop_zero List.nil_append List.append_nil List.take_succ_cons
attribute [go_sem] List.cons_append cut_cons cut_zero cut_skip bindOn preOf nub List.contains_cons List.contains_nil Bool.or_true
attribute [go_sem] Bool.or_false Bool.false_or Bool.true_or Bool.or_self recAt List.filter_cons List.filter_nil bn_data bn_chain bn_guard
attribute [go_sem] bn_phase bn_text bn_gc List.flatMap_cons List.flatMap_nil tAt hHide hAt upsAt Bool.and_false
attribute [go_sem] Bool.false_and beq_self_eq_true Option.some_beq_some Option.none_beq_some Option.some_beq_none touch touchB Nat.sub_self List.range'_zero Nat.add_sub_cancel_left
attribute [go_sem] List.range'_one goes bq_t bq_f retsA ret1 cArgs dT dH sk
attribute [go_sem] incs incsL List.size_toArray List.range List.range.loop or_true true_or or_false false_or or_self
attribute [go_sem] ne_eq gt_iff_lt lenA appM copyM makeM convM vb_app vb_cpy vo_mk
attribute [go_sem] vo_conv appA copyA mkA srcOf readSl fillA List.mapM_cons List.mapM_nil Option.bind_eq_bind
attribute [go_sem] Option.pure_def List.getElem?_nil ev_shr32 ev_shl32 ev_or ev_and ev_rem ev_quo ev_xor ev_andNot
attribute [go_sem] List.filterMap_cons List.filterMap_nil mapF frz_s frz_l frz_pp frz_n frz_e frz_a frz_t
attribute [go_sem] Nat.le_refl List.isEmpty_nil List.isEmpty_cons ite_self
attribute [go_sem] List.range'_succ eq_self pick vo_mk vop.eq_1 vop.eq_2 vop.eq_3 vop.eq_4 vop.eq_5 vop.eq_6 vop.eq_7 vop.eq_8 vop.eq_9 vop.eq_10 vop.eq_11 vop.eq_12 vop.eq_13 vop.eq_14 vop.eq_15 vop.eq_17 vop.eq_18 vop.eq_19 vop.eq_20 vop.eq_21 vop.eq_22 vop.eq_23
theorem o_gw {C : Cfg} {nt n : Nat} {ops : Array Oper} {o : Oper} {l : List Oper} {T : Nat → AV} {h : Heap} {Q : St → Prop} (hw : Gw C nt ops (o :: l) ⟨T, h, n⟩ Q) : Go' C nt ops o l T h n Q := ⟨fun _ => hw⟩
end Go.Proofs.Bv
namespace Go.Proofs.Bv
open Go
structure Bx (B : Prop) : Prop where
  go : B
theorem wa {P Q : Prop} (p : P) (q : Q) : P ∧ Q := ⟨p, q⟩
theorem wB {F A B : Prop} (f : F) (b : B) (h : F → Bx B → A := by intro wf wb; (repeat' first | refine w_op rfl rfl ?_ | refine x_p rfl ?_ | refine w_sr ?_ | refine st_nil ?_ | refine w_seq ?_ | refine st_region ?_ | refine st_block ?_ | refine w_cond ?_ | refine b_t ?_ | refine b_f ?_ | refine st_skip ?_ | refine st_exit ?_ | refine st_ret ?_ | refine st_onNormN ?_ | refine st_onNormE ?_ | refine st_onNormR ?_ | refine st_onExitN ?_ | refine st_onExitR ?_ | refine st_onExitS ?_ | refine st_onExitO (by decide) ?_ | refine g_t ?_ | refine g_f rfl ?_ | refine o_op rfl ?_ | refine w_wr ?_ | refine w_wn ?_ | refine d_c rfl ?_ | refine d_on rfl ?_ | refine d_op rfl ?_ | refine d_y ?_ | refine d_gd rfl ?_ | refine d_t ?_ | refine d_f ?_ | refine d_nil ?_ | refine w_dr rfl ?_ | refine d_q ?_ | refine w_gd rfl ?_ | ((first | refine zE1 ?_); (conv => arg 1; try simp only [go_sem, Nat.reduceEqDiff, reduceIte, Nat.reduceAdd, Nat.reduceLeDiff, Nat.reduceMul, Int.reduceEq, Int.reduceLT, Int.reduceLE, Int.reduceNeg, Int.reduceAdd, Int.reduceSub, Nat.reduceLT, Nat.reduceBEq, Nat.reduceSub, Nat.reducePow, Option.map_none, Option.isSome_none, Int.natCast_zero, rep, wf]); first | refine zE3 ?_ | refine zE2 ?_ | refine zE4 ?_ | refine zE5 ?_ | refine zE6 ?_ | refine zE7 ?_ | refine zE8 ?_) | (refine w_u false ?_; (conv => arg 1; reduce); refine zR1 ?_) | (refine b_s (fun hwk => ?_) (fun hwk => ?_) <;> ((try simp only [hn1, hn2, hn3, hn4] at hwk); first | (exfalso; omega) | skip)) | (first | refine g_s (fun hwk => ?_) (fun hwk => ?_) | refine d_s (fun hwk => ?_) (fun hwk => ?_)) <;> ((try simp only [hn1, hn2] at hwk); rw [hwk]; try simp only [hn3, hn4] at hwk)); (all_goals repeat revert hwk); all_goals (first | with_reducible exact wb.go.1 | with_reducible exact wb.go.2.1 | with_reducible exact wb.go.2.2.1 | with_reducible exact wb.go.2.2.2.1 | with_reducible exact wb.go.2.2.2.2.1 | with_reducible exact wb.go.2.2.2.2.2.1 | with_reducible exact wb.go.2.2.2.2.2.2.1 | with_reducible exact wb.go.2.2.2.2.2.2.2.1 | with_reducible exact wb.go.2.2.2.2.2.2.2.2.1 | with_reducible exact wb.go.2.2.2.2.2.2.2.2.2.1 | with_reducible exact wb.go.2.2.2.2.2.2.2.2.2.2.1 | with_reducible exact wb.go.2.2.2.2.2.2.2.2.2.2.2.1 | with_reducible exact wb.go.2.2.2.2.2.2.2.2.2.2.2.2.1)) : A := h f ⟨b⟩
theorem wB0 {F A : Prop} (f : F) (h : F → A := by intro f ; exact wB @f trivial) : A := h f 
theorem wB1 {F A B1 : Prop} (f : F) (b1 : B1) (h : F → Bx B1 → A := by intro f b1; exact wB @f (wa b1.go trivial)) : A := h f ⟨b1⟩
theorem wB2 {F A B1 B2 : Prop} (f : F) (b1 : B1) (b2 : B2) (h : F → Bx B1 → Bx B2 → A := by intro f b1 b2; exact wB @f (wa b1.go (wa b2.go trivial))) : A := h f ⟨b1⟩ ⟨b2⟩
theorem wB3 {F A B1 B2 B3 : Prop} (f : F) (b1 : B1) (b2 : B2) (b3 : B3) (h : F → Bx B1 → Bx B2 → Bx B3 → A := by intro f b1 b2 b3; exact wB @f (wa b1.go (wa b2.go (wa b3.go trivial)))) : A := h f ⟨b1⟩ ⟨b2⟩ ⟨b3⟩
theorem wB4 {F A B1 B2 B3 B4 : Prop} (f : F) (b1 : B1) (b2 : B2) (b3 : B3) (b4 : B4) (h : F → Bx B1 → Bx B2 → Bx B3 → Bx B4 → A := by intro f b1 b2 b3 b4; exact wB @f (wa b1.go (wa b2.go (wa b3.go (wa b4.go trivial))))) : A := h f ⟨b1⟩ ⟨b2⟩ ⟨b3⟩ ⟨b4⟩
theorem wB5 {F A B1 B2 B3 B4 B5 : Prop} (f : F) (b1 : B1) (b2 : B2) (b3 : B3) (b4 : B4) (b5 : B5) (h : F → Bx B1 → Bx B2 → Bx B3 → Bx B4 → Bx B5 → A := by intro f b1 b2 b3 b4 b5; exact wB @f (wa b1.go (wa b2.go (wa b3.go (wa b4.go (wa b5.go trivial)))))) : A := h f ⟨b1⟩ ⟨b2⟩ ⟨b3⟩ ⟨b4⟩ ⟨b5⟩
theorem wB6 {F A B1 B2 B3 B4 B5 B6 : Prop} (f : F) (b1 : B1) (b2 : B2) (b3 : B3) (b4 : B4) (b5 : B5) (b6 : B6) (h : F → Bx B1 → Bx B2 → Bx B3 → Bx B4 → Bx B5 → Bx B6 → A := by intro f b1 b2 b3 b4 b5 b6; exact wB @f (wa b1.go (wa b2.go (wa b3.go (wa b4.go (wa b5.go (wa b6.go trivial))))))) : A := h f ⟨b1⟩ ⟨b2⟩ ⟨b3⟩ ⟨b4⟩ ⟨b5⟩ ⟨b6⟩
theorem wB7 {F A B1 B2 B3 B4 B5 B6 B7 : Prop} (f : F) (b1 : B1) (b2 : B2) (b3 : B3) (b4 : B4) (b5 : B5) (b6 : B6) (b7 : B7) (h : F → Bx B1 → Bx B2 → Bx B3 → Bx B4 → Bx B5 → Bx B6 → Bx B7 → A := by intro f b1 b2 b3 b4 b5 b6 b7; exact wB @f (wa b1.go (wa b2.go (wa b3.go (wa b4.go (wa b5.go (wa b6.go (wa b7.go trivial)))))))) : A := h f ⟨b1⟩ ⟨b2⟩ ⟨b3⟩ ⟨b4⟩ ⟨b5⟩ ⟨b6⟩ ⟨b7⟩
theorem wB8 {F A B1 B2 B3 B4 B5 B6 B7 B8 : Prop} (f : F) (b1 : B1) (b2 : B2) (b3 : B3) (b4 : B4) (b5 : B5) (b6 : B6) (b7 : B7) (b8 : B8) (h : F → Bx B1 → Bx B2 → Bx B3 → Bx B4 → Bx B5 → Bx B6 → Bx B7 → Bx B8 → A := by intro f b1 b2 b3 b4 b5 b6 b7 b8; exact wB @f (wa b1.go (wa b2.go (wa b3.go (wa b4.go (wa b5.go (wa b6.go (wa b7.go (wa b8.go trivial))))))))) : A := h f ⟨b1⟩ ⟨b2⟩ ⟨b3⟩ ⟨b4⟩ ⟨b5⟩ ⟨b6⟩ ⟨b7⟩ ⟨b8⟩
theorem wB9 {F A B1 B2 B3 B4 B5 B6 B7 B8 B9 : Prop} (f : F) (b1 : B1) (b2 : B2) (b3 : B3) (b4 : B4) (b5 : B5) (b6 : B6) (b7 : B7) (b8 : B8) (b9 : B9) (h : F → Bx B1 → Bx B2 → Bx B3 → Bx B4 → Bx B5 → Bx B6 → Bx B7 → Bx B8 → Bx B9 → A := by intro f b1 b2 b3 b4 b5 b6 b7 b8 b9; exact wB @f (wa b1.go (wa b2.go (wa b3.go (wa b4.go (wa b5.go (wa b6.go (wa b7.go (wa b8.go (wa b9.go trivial)))))))))) : A := h f ⟨b1⟩ ⟨b2⟩ ⟨b3⟩ ⟨b4⟩ ⟨b5⟩ ⟨b6⟩ ⟨b7⟩ ⟨b8⟩ ⟨b9⟩
theorem wB10 {F A B1 B2 B3 B4 B5 B6 B7 B8 B9 B10 : Prop} (f : F) (b1 : B1) (b2 : B2) (b3 : B3) (b4 : B4) (b5 : B5) (b6 : B6) (b7 : B7) (b8 : B8) (b9 : B9) (b10 : B10) (h : F → Bx B1 → Bx B2 → Bx B3 → Bx B4 → Bx B5 → Bx B6 → Bx B7 → Bx B8 → Bx B9 → Bx B10 → A := by intro f b1 b2 b3 b4 b5 b6 b7 b8 b9 b10; exact wB @f (wa b1.go (wa b2.go (wa b3.go (wa b4.go (wa b5.go (wa b6.go (wa b7.go (wa b8.go (wa b9.go (wa b10.go trivial))))))))))) : A := h f ⟨b1⟩ ⟨b2⟩ ⟨b3⟩ ⟨b4⟩ ⟨b5⟩ ⟨b6⟩ ⟨b7⟩ ⟨b8⟩ ⟨b9⟩ ⟨b10⟩
theorem wB11 {F A B1 B2 B3 B4 B5 B6 B7 B8 B9 B10 B11 : Prop} (f : F) (b1 : B1) (b2 : B2) (b3 : B3) (b4 : B4) (b5 : B5) (b6 : B6) (b7 : B7) (b8 : B8) (b9 : B9) (b10 : B10) (b11 : B11) (h : F → Bx B1 → Bx B2 → Bx B3 → Bx B4 → Bx B5 → Bx B6 → Bx B7 → Bx B8 → Bx B9 → Bx B10 → Bx B11 → A := by intro f b1 b2 b3 b4 b5 b6 b7 b8 b9 b10 b11; exact wB @f (wa b1.go (wa b2.go (wa b3.go (wa b4.go (wa b5.go (wa b6.go (wa b7.go (wa b8.go (wa b9.go (wa b10.go (wa b11.go trivial)))))))))))) : A := h f ⟨b1⟩ ⟨b2⟩ ⟨b3⟩ ⟨b4⟩ ⟨b5⟩ ⟨b6⟩ ⟨b7⟩ ⟨b8⟩ ⟨b9⟩ ⟨b10⟩ ⟨b11⟩
theorem wB12 {F A B1 B2 B3 B4 B5 B6 B7 B8 B9 B10 B11 B12 : Prop} (f : F) (b1 : B1) (b2 : B2) (b3 : B3) (b4 : B4) (b5 : B5) (b6 : B6) (b7 : B7) (b8 : B8) (b9 : B9) (b10 : B10) (b11 : B11) (b12 : B12) (h : F → Bx B1 → Bx B2 → Bx B3 → Bx B4 → Bx B5 → Bx B6 → Bx B7 → Bx B8 → Bx B9 → Bx B10 → Bx B11 → Bx B12 → A := by intro f b1 b2 b3 b4 b5 b6 b7 b8 b9 b10 b11 b12; exact wB @f (wa b1.go (wa b2.go (wa b3.go (wa b4.go (wa b5.go (wa b6.go (wa b7.go (wa b8.go (wa b9.go (wa b10.go (wa b11.go (wa b12.go trivial))))))))))))) : A := h f ⟨b1⟩ ⟨b2⟩ ⟨b3⟩ ⟨b4⟩ ⟨b5⟩ ⟨b6⟩ ⟨b7⟩ ⟨b8⟩ ⟨b9⟩ ⟨b10⟩ ⟨b11⟩ ⟨b12⟩
theorem wC {F K A B : Prop} (f : F) (c : K) (b : B) (h : F → K → Bx B → A := by intro wf wc wb; (repeat' first | refine w_op rfl rfl ?_ | refine x_p rfl ?_ | refine w_sr ?_ | refine st_nil ?_ | refine w_seq ?_ | refine st_region ?_ | refine st_block ?_ | refine w_cond ?_ | refine b_t ?_ | refine b_f ?_ | refine st_skip ?_ | refine st_exit ?_ | refine st_ret ?_ | refine st_onNormN ?_ | refine st_onNormE ?_ | refine st_onNormR ?_ | refine st_onExitN ?_ | refine st_onExitR ?_ | refine st_onExitS ?_ | refine st_onExitO (by decide) ?_ | refine g_t ?_ | refine g_f rfl ?_ | refine o_op rfl ?_ | refine w_wr ?_ | refine w_wn ?_ | refine d_c rfl ?_ | refine d_on rfl ?_ | refine d_op rfl ?_ | refine d_y ?_ | refine d_gd rfl ?_ | refine d_t ?_ | refine d_f ?_ | refine d_nil ?_ | refine w_dr rfl ?_ | refine d_q ?_ | refine n_0 rfl ?_ | refine d_n ?_ | refine k_p rfl rfl rfl rfl (by first | exact wc.1 | exact wc.2.1 | exact wc.2.2.1 | exact wc.2.2.2.1 | exact wc.2.2.2.2.1 | exact wc.2.2.2.2.2.1 | exact wc.2.2.2.2.2.2.1 | exact wc.2.2.2.2.2.2.2.1 | exact wc.2.2.2.2.2.2.2.2.1 | exact wc.2.2.2.2.2.2.2.2.2.1 | exact wc.2.2.2.2.2.2.2.2.2.2.1 | exact wc.2.2.2.2.2.2.2.2.2.2.2.1 | exact wc.2.2.2.2.2.2.2.2.2.2.2.2.1 | exact wc.2.2.2.2.2.2.2.2.2.2.2.2.2.1) ?_ | refine k_o rfl rfl rfl ?_ | refine w_gd rfl ?_ | ((first | refine zE1 ?_ | refine w_cl rfl rfl ?_ | refine o_cl rfl ?_ | refine d_cl rfl ?_); (conv => arg 1; try simp only [go_sem, Nat.reduceEqDiff, reduceIte, Nat.reduceAdd, Nat.reduceLeDiff, Nat.reduceMul, Int.reduceEq, Int.reduceLT, Int.reduceLE, Int.reduceNeg, Int.reduceAdd, Int.reduceSub, Nat.reduceLT, Nat.reduceBEq, Nat.reduceSub, Nat.reducePow, Option.map_none, Option.isSome_none, Int.natCast_zero, rep, wf]); first | refine zE3 ?_ | refine zE2 ?_ | refine zE4 ?_ | refine zE5 ?_ | refine zE6 ?_ | refine zE7 ?_ | refine zE8 ?_) | (refine w_u false ?_; (conv => arg 1; reduce); refine zR1 ?_) | (refine b_s (fun hwk => ?_) (fun hwk => ?_) <;> ((try simp only [hn1, hn2, hn3, hn4] at hwk); first | (exfalso; omega) | skip)) | (first | refine g_s (fun hwk => ?_) (fun hwk => ?_) | refine d_s (fun hwk => ?_) (fun hwk => ?_)) <;> ((try simp only [hn1, hn2] at hwk); rw [hwk]; try simp only [hn3, hn4] at hwk)); (all_goals repeat revert hwk); all_goals (first | with_reducible exact wb.go.1 | with_reducible exact wb.go.2.1 | with_reducible exact wb.go.2.2.1 | with_reducible exact wb.go.2.2.2.1 | with_reducible exact wb.go.2.2.2.2.1 | with_reducible exact wb.go.2.2.2.2.2.1 | with_reducible exact wb.go.2.2.2.2.2.2.1 | with_reducible exact wb.go.2.2.2.2.2.2.2.1 | with_reducible exact wb.go.2.2.2.2.2.2.2.2.1 | with_reducible exact wb.go.2.2.2.2.2.2.2.2.2.1 | with_reducible exact wb.go.2.2.2.2.2.2.2.2.2.2.1 | with_reducible exact wb.go.2.2.2.2.2.2.2.2.2.2.2.1 | with_reducible exact wb.go.2.2.2.2.2.2.2.2.2.2.2.2.1)) : A := h f c ⟨b⟩
theorem wC0 {F K A : Prop} (f : F) (c : K) (h : F → K → A := by intro f c ; exact wC @f @c trivial) : A := h f c 
theorem wC1 {F K A B1 : Prop} (f : F) (c : K) (b1 : B1) (h : F → K → Bx B1 → A := by intro f c b1; exact wC @f @c (wa b1.go trivial)) : A := h f c ⟨b1⟩
theorem wC2 {F K A B1 B2 : Prop} (f : F) (c : K) (b1 : B1) (b2 : B2) (h : F → K → Bx B1 → Bx B2 → A := by intro f c b1 b2; exact wC @f @c (wa b1.go (wa b2.go trivial))) : A := h f c ⟨b1⟩ ⟨b2⟩
theorem wC3 {F K A B1 B2 B3 : Prop} (f : F) (c : K) (b1 : B1) (b2 : B2) (b3 : B3) (h : F → K → Bx B1 → Bx B2 → Bx B3 → A := by intro f c b1 b2 b3; exact wC @f @c (wa b1.go (wa b2.go (wa b3.go trivial)))) : A := h f c ⟨b1⟩ ⟨b2⟩ ⟨b3⟩
theorem wC4 {F K A B1 B2 B3 B4 : Prop} (f : F) (c : K) (b1 : B1) (b2 : B2) (b3 : B3) (b4 : B4) (h : F → K → Bx B1 → Bx B2 → Bx B3 → Bx B4 → A := by intro f c b1 b2 b3 b4; exact wC @f @c (wa b1.go (wa b2.go (wa b3.go (wa b4.go trivial))))) : A := h f c ⟨b1⟩ ⟨b2⟩ ⟨b3⟩ ⟨b4⟩
theorem wC5 {F K A B1 B2 B3 B4 B5 : Prop} (f : F) (c : K) (b1 : B1) (b2 : B2) (b3 : B3) (b4 : B4) (b5 : B5) (h : F → K → Bx B1 → Bx B2 → Bx B3 → Bx B4 → Bx B5 → A := by intro f c b1 b2 b3 b4 b5; exact wC @f @c (wa b1.go (wa b2.go (wa b3.go (wa b4.go (wa b5.go trivial)))))) : A := h f c ⟨b1⟩ ⟨b2⟩ ⟨b3⟩ ⟨b4⟩ ⟨b5⟩
theorem wC6 {F K A B1 B2 B3 B4 B5 B6 : Prop} (f : F) (c : K) (b1 : B1) (b2 : B2) (b3 : B3) (b4 : B4) (b5 : B5) (b6 : B6) (h : F → K → Bx B1 → Bx B2 → Bx B3 → Bx B4 → Bx B5 → Bx B6 → A := by intro f c b1 b2 b3 b4 b5 b6; exact wC @f @c (wa b1.go (wa b2.go (wa b3.go (wa b4.go (wa b5.go (wa b6.go trivial))))))) : A := h f c ⟨b1⟩ ⟨b2⟩ ⟨b3⟩ ⟨b4⟩ ⟨b5⟩ ⟨b6⟩
theorem wC7 {F K A B1 B2 B3 B4 B5 B6 B7 : Prop} (f : F) (c : K) (b1 : B1) (b2 : B2) (b3 : B3) (b4 : B4) (b5 : B5) (b6 : B6) (b7 : B7) (h : F → K → Bx B1 → Bx B2 → Bx B3 → Bx B4 → Bx B5 → Bx B6 → Bx B7 → A := by intro f c b1 b2 b3 b4 b5 b6 b7; exact wC @f @c (wa b1.go (wa b2.go (wa b3.go (wa b4.go (wa b5.go (wa b6.go (wa b7.go trivial)))))))) : A := h f c ⟨b1⟩ ⟨b2⟩ ⟨b3⟩ ⟨b4⟩ ⟨b5⟩ ⟨b6⟩ ⟨b7⟩
theorem wC8 {F K A B1 B2 B3 B4 B5 B6 B7 B8 : Prop} (f : F) (c : K) (b1 : B1) (b2 : B2) (b3 : B3) (b4 : B4) (b5 : B5) (b6 : B6) (b7 : B7) (b8 : B8) (h : F → K → Bx B1 → Bx B2 → Bx B3 → Bx B4 → Bx B5 → Bx B6 → Bx B7 → Bx B8 → A := by intro f c b1 b2 b3 b4 b5 b6 b7 b8; exact wC @f @c (wa b1.go (wa b2.go (wa b3.go (wa b4.go (wa b5.go (wa b6.go (wa b7.go (wa b8.go trivial))))))))) : A := h f c ⟨b1⟩ ⟨b2⟩ ⟨b3⟩ ⟨b4⟩ ⟨b5⟩ ⟨b6⟩ ⟨b7⟩ ⟨b8⟩
theorem wC9 {F K A B1 B2 B3 B4 B5 B6 B7 B8 B9 : Prop} (f : F) (c : K) (b1 : B1) (b2 : B2) (b3 : B3) (b4 : B4) (b5 : B5) (b6 : B6) (b7 : B7) (b8 : B8) (b9 : B9) (h : F → K → Bx B1 → Bx B2 → Bx B3 → Bx B4 → Bx B5 → Bx B6 → Bx B7 → Bx B8 → Bx B9 → A := by intro f c b1 b2 b3 b4 b5 b6 b7 b8 b9; exact wC @f @c (wa b1.go (wa b2.go (wa b3.go (wa b4.go (wa b5.go (wa b6.go (wa b7.go (wa b8.go (wa b9.go trivial)))))))))) : A := h f c ⟨b1⟩ ⟨b2⟩ ⟨b3⟩ ⟨b4⟩ ⟨b5⟩ ⟨b6⟩ ⟨b7⟩ ⟨b8⟩ ⟨b9⟩
theorem wC10 {F K A B1 B2 B3 B4 B5 B6 B7 B8 B9 B10 : Prop} (f : F) (c : K) (b1 : B1) (b2 : B2) (b3 : B3) (b4 : B4) (b5 : B5) (b6 : B6) (b7 : B7) (b8 : B8) (b9 : B9) (b10 : B10) (h : F → K → Bx B1 → Bx B2 → Bx B3 → Bx B4 → Bx B5 → Bx B6 → Bx B7 → Bx B8 → Bx B9 → Bx B10 → A := by intro f c b1 b2 b3 b4 b5 b6 b7 b8 b9 b10; exact wC @f @c (wa b1.go (wa b2.go (wa b3.go (wa b4.go (wa b5.go (wa b6.go (wa b7.go (wa b8.go (wa b9.go (wa b10.go trivial))))))))))) : A := h f c ⟨b1⟩ ⟨b2⟩ ⟨b3⟩ ⟨b4⟩ ⟨b5⟩ ⟨b6⟩ ⟨b7⟩ ⟨b8⟩ ⟨b9⟩ ⟨b10⟩
theorem wC11 {F K A B1 B2 B3 B4 B5 B6 B7 B8 B9 B10 B11 : Prop} (f : F) (c : K) (b1 : B1) (b2 : B2) (b3 : B3) (b4 : B4) (b5 : B5) (b6 : B6) (b7 : B7) (b8 : B8) (b9 : B9) (b10 : B10) (b11 : B11) (h : F → K → Bx B1 → Bx B2 → Bx B3 → Bx B4 → Bx B5 → Bx B6 → Bx B7 → Bx B8 → Bx B9 → Bx B10 → Bx B11 → A := by intro f c b1 b2 b3 b4 b5 b6 b7 b8 b9 b10 b11; exact wC @f @c (wa b1.go (wa b2.go (wa b3.go (wa b4.go (wa b5.go (wa b6.go (wa b7.go (wa b8.go (wa b9.go (wa b10.go (wa b11.go trivial)))))))))))) : A := h f c ⟨b1⟩ ⟨b2⟩ ⟨b3⟩ ⟨b4⟩ ⟨b5⟩ ⟨b6⟩ ⟨b7⟩ ⟨b8⟩ ⟨b9⟩ ⟨b10⟩ ⟨b11⟩
theorem wC12 {F K A B1 B2 B3 B4 B5 B6 B7 B8 B9 B10 B11 B12 : Prop} (f : F) (c : K) (b1 : B1) (b2 : B2) (b3 : B3) (b4 : B4) (b5 : B5) (b6 : B6) (b7 : B7) (b8 : B8) (b9 : B9) (b10 : B10) (b11 : B11) (b12 : B12) (h : F → K → Bx B1 → Bx B2 → Bx B3 → Bx B4 → Bx B5 → Bx B6 → Bx B7 → Bx B8 → Bx B9 → Bx B10 → Bx B11 → Bx B12 → A := by intro f c b1 b2 b3 b4 b5 b6 b7 b8 b9 b10 b11 b12; exact wC @f @c (wa b1.go (wa b2.go (wa b3.go (wa b4.go (wa b5.go (wa b6.go (wa b7.go (wa b8.go (wa b9.go (wa b10.go (wa b11.go (wa b12.go trivial))))))))))))) : A := h f c ⟨b1⟩ ⟨b2⟩ ⟨b3⟩ ⟨b4⟩ ⟨b5⟩ ⟨b6⟩ ⟨b7⟩ ⟨b8⟩ ⟨b9⟩ ⟨b10⟩ ⟨b11⟩ ⟨b12⟩
theorem wF {F K A B : Prop} (f : F) (c : K) (b : B) (h : F → K → Bx B → A := by intro wf wc wb; (repeat' first | refine w_op rfl rfl ?_ | refine x_p rfl ?_ | refine w_sr ?_ | refine st_nil ?_ | refine w_seq ?_ | refine st_region ?_ | refine st_block ?_ | refine w_cond ?_ | refine b_t ?_ | refine b_f ?_ | refine st_skip ?_ | refine st_exit ?_ | refine st_ret ?_ | refine st_onNormN ?_ | refine st_onNormE ?_ | refine st_onNormR ?_ | refine st_onExitN ?_ | refine st_onExitR ?_ | refine st_onExitS ?_ | refine st_onExitO (by decide) ?_ | refine g_t ?_ | refine g_f rfl ?_ | refine o_op rfl ?_ | refine w_wr ?_ | refine w_wn ?_ | refine d_c rfl ?_ | refine d_on rfl ?_ | refine d_op rfl ?_ | refine d_y ?_ | refine d_gd rfl ?_ | refine d_t ?_ | refine d_f ?_ | refine d_nil ?_ | refine w_dr rfl ?_ | refine d_q ?_ | refine n_0 rfl ?_ | refine d_n ?_ | refine k_p rfl rfl rfl rfl (by first | exact wc.1 | exact wc.2.1 | exact wc.2.2.1 | exact wc.2.2.2.1 | exact wc.2.2.2.2.1 | exact wc.2.2.2.2.2.1 | exact wc.2.2.2.2.2.2.1 | exact wc.2.2.2.2.2.2.2.1 | exact wc.2.2.2.2.2.2.2.2.1 | exact wc.2.2.2.2.2.2.2.2.2.1 | exact wc.2.2.2.2.2.2.2.2.2.2.1 | exact wc.2.2.2.2.2.2.2.2.2.2.2.1 | exact wc.2.2.2.2.2.2.2.2.2.2.2.2.1 | exact wc.2.2.2.2.2.2.2.2.2.2.2.2.2.1) ?_ | refine k_o rfl rfl rfl ?_ | refine k_z rfl ?_ | refine z_f rfl rfl (by first | exact wc.1 | exact wc.2.1 | exact wc.2.2.1 | exact wc.2.2.2.1 | exact wc.2.2.2.2.1 | exact wc.2.2.2.2.2.1 | exact wc.2.2.2.2.2.2.1 | exact wc.2.2.2.2.2.2.2.1 | exact wc.2.2.2.2.2.2.2.2.1 | exact wc.2.2.2.2.2.2.2.2.2.1 | exact wc.2.2.2.2.2.2.2.2.2.2.1 | exact wc.2.2.2.2.2.2.2.2.2.2.2.1 | exact wc.2.2.2.2.2.2.2.2.2.2.2.2.1 | exact wc.2.2.2.2.2.2.2.2.2.2.2.2.2.1) rfl ?_ | refine z_g rfl rfl (by first | exact wc.1 | exact wc.2.1 | exact wc.2.2.1 | exact wc.2.2.2.1 | exact wc.2.2.2.2.1 | exact wc.2.2.2.2.2.1 | exact wc.2.2.2.2.2.2.1 | exact wc.2.2.2.2.2.2.2.1 | exact wc.2.2.2.2.2.2.2.2.1 | exact wc.2.2.2.2.2.2.2.2.2.1 | exact wc.2.2.2.2.2.2.2.2.2.2.1 | exact wc.2.2.2.2.2.2.2.2.2.2.2.1 | exact wc.2.2.2.2.2.2.2.2.2.2.2.2.1 | exact wc.2.2.2.2.2.2.2.2.2.2.2.2.2.1) rfl ?_ | refine z_of rfl rfl (by first | exact wc.1 | exact wc.2.1 | exact wc.2.2.1 | exact wc.2.2.2.1 | exact wc.2.2.2.2.1 | exact wc.2.2.2.2.2.1 | exact wc.2.2.2.2.2.2.1 | exact wc.2.2.2.2.2.2.2.1 | exact wc.2.2.2.2.2.2.2.2.1 | exact wc.2.2.2.2.2.2.2.2.2.1 | exact wc.2.2.2.2.2.2.2.2.2.2.1 | exact wc.2.2.2.2.2.2.2.2.2.2.2.1 | exact wc.2.2.2.2.2.2.2.2.2.2.2.2.1 | exact wc.2.2.2.2.2.2.2.2.2.2.2.2.2.1) rfl ?_ | refine z_og rfl rfl (by first | exact wc.1 | exact wc.2.1 | exact wc.2.2.1 | exact wc.2.2.2.1 | exact wc.2.2.2.2.1 | exact wc.2.2.2.2.2.1 | exact wc.2.2.2.2.2.2.1 | exact wc.2.2.2.2.2.2.2.1 | exact wc.2.2.2.2.2.2.2.2.1 | exact wc.2.2.2.2.2.2.2.2.2.1 | exact wc.2.2.2.2.2.2.2.2.2.2.1 | exact wc.2.2.2.2.2.2.2.2.2.2.2.1 | exact wc.2.2.2.2.2.2.2.2.2.2.2.2.1 | exact wc.2.2.2.2.2.2.2.2.2.2.2.2.2.1) rfl ?_ | refine d_m (Nat.le_refl _) ?_ | refine w_gd rfl ?_ | ((first | refine zE1 ?_ | refine w_cl rfl rfl ?_ | refine o_cl rfl ?_ | refine d_cl rfl ?_); (conv => arg 1; try simp only [go_sem, Nat.reduceEqDiff, reduceIte, Nat.reduceAdd, Nat.reduceLeDiff, Nat.reduceMul, Int.reduceEq, Int.reduceLT, Int.reduceLE, Int.reduceNeg, Int.reduceAdd, Int.reduceSub, Nat.reduceLT, Nat.reduceBEq, Nat.reduceSub, Nat.reducePow, Option.map_none, Option.isSome_none, Int.natCast_zero, rep, wf]); first | refine zE3 ?_ | refine zE2 ?_ | refine zE4 ?_ | refine zE5 ?_ | refine zE6 ?_ | refine zE7 ?_ | refine zE8 ?_) | (refine w_u false ?_; (conv => arg 1; reduce); refine zR1 ?_) | (refine b_s (fun hwk => ?_) (fun hwk => ?_) <;> ((try simp only [hn1, hn2, hn3, hn4] at hwk); first | (exfalso; omega) | skip)) | (first | refine g_s (fun hwk => ?_) (fun hwk => ?_) | refine d_s (fun hwk => ?_) (fun hwk => ?_)) <;> ((try simp only [hn1, hn2] at hwk); rw [hwk]; try simp only [hn3, hn4] at hwk)); (all_goals repeat revert hwk); all_goals (first | with_reducible exact wb.go.1 | with_reducible exact wb.go.2.1 | with_reducible exact wb.go.2.2.1 | with_reducible exact wb.go.2.2.2.1 | with_reducible exact wb.go.2.2.2.2.1 | with_reducible exact wb.go.2.2.2.2.2.1 | with_reducible exact wb.go.2.2.2.2.2.2.1 | with_reducible exact wb.go.2.2.2.2.2.2.2.1 | with_reducible exact wb.go.2.2.2.2.2.2.2.2.1 | with_reducible exact wb.go.2.2.2.2.2.2.2.2.2.1 | with_reducible exact wb.go.2.2.2.2.2.2.2.2.2.2.1 | with_reducible exact wb.go.2.2.2.2.2.2.2.2.2.2.2.1 | with_reducible exact wb.go.2.2.2.2.2.2.2.2.2.2.2.2.1)) : A := h f c ⟨b⟩
theorem wF0 {F K A : Prop} (f : F) (c : K) (h : F → K → A := by intro f c ; exact wF @f @c trivial) : A := h f c 
theorem wF1 {F K A B1 : Prop} (f : F) (c : K) (b1 : B1) (h : F → K → Bx B1 → A := by intro f c b1; exact wF @f @c (wa b1.go trivial)) : A := h f c ⟨b1⟩
theorem wF2 {F K A B1 B2 : Prop} (f : F) (c : K) (b1 : B1) (b2 : B2) (h : F → K → Bx B1 → Bx B2 → A := by intro f c b1 b2; exact wF @f @c (wa b1.go (wa b2.go trivial))) : A := h f c ⟨b1⟩ ⟨b2⟩
theorem wF3 {F K A B1 B2 B3 : Prop} (f : F) (c : K) (b1 : B1) (b2 : B2) (b3 : B3) (h : F → K → Bx B1 → Bx B2 → Bx B3 → A := by intro f c b1 b2 b3; exact wF @f @c (wa b1.go (wa b2.go (wa b3.go trivial)))) : A := h f c ⟨b1⟩ ⟨b2⟩ ⟨b3⟩
theorem wF4 {F K A B1 B2 B3 B4 : Prop} (f : F) (c : K) (b1 : B1) (b2 : B2) (b3 : B3) (b4 : B4) (h : F → K → Bx B1 → Bx B2 → Bx B3 → Bx B4 → A := by intro f c b1 b2 b3 b4; exact wF @f @c (wa b1.go (wa b2.go (wa b3.go (wa b4.go trivial))))) : A := h f c ⟨b1⟩ ⟨b2⟩ ⟨b3⟩ ⟨b4⟩
theorem wF5 {F K A B1 B2 B3 B4 B5 : Prop} (f : F) (c : K) (b1 : B1) (b2 : B2) (b3 : B3) (b4 : B4) (b5 : B5) (h : F → K → Bx B1 → Bx B2 → Bx B3 → Bx B4 → Bx B5 → A := by intro f c b1 b2 b3 b4 b5; exact wF @f @c (wa b1.go (wa b2.go (wa b3.go (wa b4.go (wa b5.go trivial)))))) : A := h f c ⟨b1⟩ ⟨b2⟩ ⟨b3⟩ ⟨b4⟩ ⟨b5⟩
theorem wF6 {F K A B1 B2 B3 B4 B5 B6 : Prop} (f : F) (c : K) (b1 : B1) (b2 : B2) (b3 : B3) (b4 : B4) (b5 : B5) (b6 : B6) (h : F → K → Bx B1 → Bx B2 → Bx B3 → Bx B4 → Bx B5 → Bx B6 → A := by intro f c b1 b2 b3 b4 b5 b6; exact wF @f @c (wa b1.go (wa b2.go (wa b3.go (wa b4.go (wa b5.go (wa b6.go trivial))))))) : A := h f c ⟨b1⟩ ⟨b2⟩ ⟨b3⟩ ⟨b4⟩ ⟨b5⟩ ⟨b6⟩
theorem wF7 {F K A B1 B2 B3 B4 B5 B6 B7 : Prop} (f : F) (c : K) (b1 : B1) (b2 : B2) (b3 : B3) (b4 : B4) (b5 : B5) (b6 : B6) (b7 : B7) (h : F → K → Bx B1 → Bx B2 → Bx B3 → Bx B4 → Bx B5 → Bx B6 → Bx B7 → A := by intro f c b1 b2 b3 b4 b5 b6 b7; exact wF @f @c (wa b1.go (wa b2.go (wa b3.go (wa b4.go (wa b5.go (wa b6.go (wa b7.go trivial)))))))) : A := h f c ⟨b1⟩ ⟨b2⟩ ⟨b3⟩ ⟨b4⟩ ⟨b5⟩ ⟨b6⟩ ⟨b7⟩
theorem wF8 {F K A B1 B2 B3 B4 B5 B6 B7 B8 : Prop} (f : F) (c : K) (b1 : B1) (b2 : B2) (b3 : B3) (b4 : B4) (b5 : B5) (b6 : B6) (b7 : B7) (b8 : B8) (h : F → K → Bx B1 → Bx B2 → Bx B3 → Bx B4 → Bx B5 → Bx B6 → Bx B7 → Bx B8 → A := by intro f c b1 b2 b3 b4 b5 b6 b7 b8; exact wF @f @c (wa b1.go (wa b2.go (wa b3.go (wa b4.go (wa b5.go (wa b6.go (wa b7.go (wa b8.go trivial))))))))) : A := h f c ⟨b1⟩ ⟨b2⟩ ⟨b3⟩ ⟨b4⟩ ⟨b5⟩ ⟨b6⟩ ⟨b7⟩ ⟨b8⟩
theorem wF9 {F K A B1 B2 B3 B4 B5 B6 B7 B8 B9 : Prop} (f : F) (c : K) (b1 : B1) (b2 : B2) (b3 : B3) (b4 : B4) (b5 : B5) (b6 : B6) (b7 : B7) (b8 : B8) (b9 : B9) (h : F → K → Bx B1 → Bx B2 → Bx B3 → Bx B4 → Bx B5 → Bx B6 → Bx B7 → Bx B8 → Bx B9 → A := by intro f c b1 b2 b3 b4 b5 b6 b7 b8 b9; exact wF @f @c (wa b1.go (wa b2.go (wa b3.go (wa b4.go (wa b5.go (wa b6.go (wa b7.go (wa b8.go (wa b9.go trivial)))))))))) : A := h f c ⟨b1⟩ ⟨b2⟩ ⟨b3⟩ ⟨b4⟩ ⟨b5⟩ ⟨b6⟩ ⟨b7⟩ ⟨b8⟩ ⟨b9⟩
theorem wF10 {F K A B1 B2 B3 B4 B5 B6 B7 B8 B9 B10 : Prop} (f : F) (c : K) (b1 : B1) (b2 : B2) (b3 : B3) (b4 : B4) (b5 : B5) (b6 : B6) (b7 : B7) (b8 : B8) (b9 : B9) (b10 : B10) (h : F → K → Bx B1 → Bx B2 → Bx B3 → Bx B4 → Bx B5 → Bx B6 → Bx B7 → Bx B8 → Bx B9 → Bx B10 → A := by intro f c b1 b2 b3 b4 b5 b6 b7 b8 b9 b10; exact wF @f @c (wa b1.go (wa b2.go (wa b3.go (wa b4.go (wa b5.go (wa b6.go (wa b7.go (wa b8.go (wa b9.go (wa b10.go trivial))))))))))) : A := h f c ⟨b1⟩ ⟨b2⟩ ⟨b3⟩ ⟨b4⟩ ⟨b5⟩ ⟨b6⟩ ⟨b7⟩ ⟨b8⟩ ⟨b9⟩ ⟨b10⟩
theorem wF11 {F K A B1 B2 B3 B4 B5 B6 B7 B8 B9 B10 B11 : Prop} (f : F) (c : K) (b1 : B1) (b2 : B2) (b3 : B3) (b4 : B4) (b5 : B5) (b6 : B6) (b7 : B7) (b8 : B8) (b9 : B9) (b10 : B10) (b11 : B11) (h : F → K → Bx B1 → Bx B2 → Bx B3 → Bx B4 → Bx B5 → Bx B6 → Bx B7 → Bx B8 → Bx B9 → Bx B10 → Bx B11 → A := by intro f c b1 b2 b3 b4 b5 b6 b7 b8 b9 b10 b11; exact wF @f @c (wa b1.go (wa b2.go (wa b3.go (wa b4.go (wa b5.go (wa b6.go (wa b7.go (wa b8.go (wa b9.go (wa b10.go (wa b11.go trivial)))))))))))) : A := h f c ⟨b1⟩ ⟨b2⟩ ⟨b3⟩ ⟨b4⟩ ⟨b5⟩ ⟨b6⟩ ⟨b7⟩ ⟨b8⟩ ⟨b9⟩ ⟨b10⟩ ⟨b11⟩
theorem wF12 {F K A B1 B2 B3 B4 B5 B6 B7 B8 B9 B10 B11 B12 : Prop} (f : F) (c : K) (b1 : B1) (b2 : B2) (b3 : B3) (b4 : B4) (b5 : B5) (b6 : B6) (b7 : B7) (b8 : B8) (b9 : B9) (b10 : B10) (b11 : B11) (b12 : B12) (h : F → K → Bx B1 → Bx B2 → Bx B3 → Bx B4 → Bx B5 → Bx B6 → Bx B7 → Bx B8 → Bx B9 → Bx B10 → Bx B11 → Bx B12 → A := by intro f c b1 b2 b3 b4 b5 b6 b7 b8 b9 b10 b11 b12; exact wF @f @c (wa b1.go (wa b2.go (wa b3.go (wa b4.go (wa b5.go (wa b6.go (wa b7.go (wa b8.go (wa b9.go (wa b10.go (wa b11.go (wa b12.go trivial))))))))))))) : A := h f c ⟨b1⟩ ⟨b2⟩ ⟨b3⟩ ⟨b4⟩ ⟨b5⟩ ⟨b6⟩ ⟨b7⟩ ⟨b8⟩ ⟨b9⟩ ⟨b10⟩ ⟨b11⟩ ⟨b12⟩
theorem gB {F A B : Prop} (f : F) (b : B) (h : F → Bx B → A := by intro wf wb; (repeat' first | refine w_op rfl rfl ?_ | refine x_p rfl ?_ | refine w_sr ?_ | refine st_nil ?_ | refine w_seq ?_ | refine st_region ?_ | refine st_block ?_ | refine w_cond ?_ | refine b_t ?_ | refine b_f ?_ | refine st_skip ?_ | refine st_exit ?_ | refine st_ret ?_ | refine st_onNormN ?_ | refine st_onNormE ?_ | refine st_onNormR ?_ | refine st_onExitN ?_ | refine st_onExitR ?_ | refine st_onExitS ?_ | refine st_onExitO (by decide) ?_ | refine g_t ?_ | refine g_f rfl ?_ | refine o_op rfl ?_ | refine w_wr ?_ | refine w_wn ?_ | refine d_c rfl ?_ | refine d_on rfl ?_ | refine d_op rfl ?_ | refine d_y ?_ | refine d_gd rfl ?_ | refine d_t ?_ | refine d_f ?_ | refine d_nil ?_ | refine w_dg rfl ?_ | refine d_mid ?_ | refine d_mj ?_ | refine d_e ?_ | refine w_gd rfl ?_ | ((first | refine zE1 ?_); (conv => arg 1; try simp only [go_sem, Nat.reduceEqDiff, reduceIte, Nat.reduceAdd, Nat.reduceLeDiff, Nat.reduceMul, Int.reduceEq, Int.reduceLT, Int.reduceLE, Int.reduceNeg, Int.reduceAdd, Int.reduceSub, Nat.reduceLT, Nat.reduceBEq, Nat.reduceSub, Nat.reducePow, Option.map_none, Option.isSome_none, Int.natCast_zero, rep, wf]); first | refine zE3 ?_ | refine zE2 ?_ | refine zE4 ?_ | refine zE5 ?_ | refine zE6 ?_ | refine zE7 ?_ | refine zE8 ?_) | (refine w_u true ?_; (conv => arg 1; reduce); refine zR1 ?_) | (refine b_s (fun hwk => ?_) (fun hwk => ?_) <;> ((try simp only [hn1, hn2, hn3, hn4] at hwk); first | (exfalso; omega) | skip)) | (first | refine g_s (fun hwk => ?_) (fun hwk => ?_) | refine d_s (fun hwk => ?_) (fun hwk => ?_)) <;> ((try simp only [hn1, hn2] at hwk); rw [hwk]; try simp only [hn3, hn4] at hwk)); (all_goals repeat revert hwk); all_goals (first | with_reducible exact wb.go.1 | with_reducible exact wb.go.2.1 | with_reducible exact wb.go.2.2.1 | with_reducible exact wb.go.2.2.2.1 | with_reducible exact wb.go.2.2.2.2.1 | with_reducible exact wb.go.2.2.2.2.2.1 | with_reducible exact wb.go.2.2.2.2.2.2.1 | with_reducible exact wb.go.2.2.2.2.2.2.2.1 | with_reducible exact wb.go.2.2.2.2.2.2.2.2.1 | with_reducible exact wb.go.2.2.2.2.2.2.2.2.2.1 | with_reducible exact wb.go.2.2.2.2.2.2.2.2.2.2.1 | with_reducible exact wb.go.2.2.2.2.2.2.2.2.2.2.2.1 | with_reducible exact wb.go.2.2.2.2.2.2.2.2.2.2.2.2.1)) : A := h f ⟨b⟩
theorem gB0 {F A : Prop} (f : F) (h : F → A := by intro f ; exact gB @f trivial) : A := h f 
theorem gB1 {F A B1 : Prop} (f : F) (b1 : B1) (h : F → Bx B1 → A := by intro f b1; exact gB @f (wa b1.go trivial)) : A := h f ⟨b1⟩
theorem gB2 {F A B1 B2 : Prop} (f : F) (b1 : B1) (b2 : B2) (h : F → Bx B1 → Bx B2 → A := by intro f b1 b2; exact gB @f (wa b1.go (wa b2.go trivial))) : A := h f ⟨b1⟩ ⟨b2⟩
theorem gB3 {F A B1 B2 B3 : Prop} (f : F) (b1 : B1) (b2 : B2) (b3 : B3) (h : F → Bx B1 → Bx B2 → Bx B3 → A := by intro f b1 b2 b3; exact gB @f (wa b1.go (wa b2.go (wa b3.go trivial)))) : A := h f ⟨b1⟩ ⟨b2⟩ ⟨b3⟩
theorem gB4 {F A B1 B2 B3 B4 : Prop} (f : F) (b1 : B1) (b2 : B2) (b3 : B3) (b4 : B4) (h : F → Bx B1 → Bx B2 → Bx B3 → Bx B4 → A := by intro f b1 b2 b3 b4; exact gB @f (wa b1.go (wa b2.go (wa b3.go (wa b4.go trivial))))) : A := h f ⟨b1⟩ ⟨b2⟩ ⟨b3⟩ ⟨b4⟩
theorem gB5 {F A B1 B2 B3 B4 B5 : Prop} (f : F) (b1 : B1) (b2 : B2) (b3 : B3) (b4 : B4) (b5 : B5) (h : F → Bx B1 → Bx B2 → Bx B3 → Bx B4 → Bx B5 → A := by intro f b1 b2 b3 b4 b5; exact gB @f (wa b1.go (wa b2.go (wa b3.go (wa b4.go (wa b5.go trivial)))))) : A := h f ⟨b1⟩ ⟨b2⟩ ⟨b3⟩ ⟨b4⟩ ⟨b5⟩
theorem gB6 {F A B1 B2 B3 B4 B5 B6 : Prop} (f : F) (b1 : B1) (b2 : B2) (b3 : B3) (b4 : B4) (b5 : B5) (b6 : B6) (h : F → Bx B1 → Bx B2 → Bx B3 → Bx B4 → Bx B5 → Bx B6 → A := by intro f b1 b2 b3 b4 b5 b6; exact gB @f (wa b1.go (wa b2.go (wa b3.go (wa b4.go (wa b5.go (wa b6.go trivial))))))) : A := h f ⟨b1⟩ ⟨b2⟩ ⟨b3⟩ ⟨b4⟩ ⟨b5⟩ ⟨b6⟩
theorem gB7 {F A B1 B2 B3 B4 B5 B6 B7 : Prop} (f : F) (b1 : B1) (b2 : B2) (b3 : B3) (b4 : B4) (b5 : B5) (b6 : B6) (b7 : B7) (h : F → Bx B1 → Bx B2 → Bx B3 → Bx B4 → Bx B5 → Bx B6 → Bx B7 → A := by intro f b1 b2 b3 b4 b5 b6 b7; exact gB @f (wa b1.go (wa b2.go (wa b3.go (wa b4.go (wa b5.go (wa b6.go (wa b7.go trivial)))))))) : A := h f ⟨b1⟩ ⟨b2⟩ ⟨b3⟩ ⟨b4⟩ ⟨b5⟩ ⟨b6⟩ ⟨b7⟩
theorem gB8 {F A B1 B2 B3 B4 B5 B6 B7 B8 : Prop} (f : F) (b1 : B1) (b2 : B2) (b3 : B3) (b4 : B4) (b5 : B5) (b6 : B6) (b7 : B7) (b8 : B8) (h : F → Bx B1 → Bx B2 → Bx B3 → Bx B4 → Bx B5 → Bx B6 → Bx B7 → Bx B8 → A := by intro f b1 b2 b3 b4 b5 b6 b7 b8; exact gB @f (wa b1.go (wa b2.go (wa b3.go (wa b4.go (wa b5.go (wa b6.go (wa b7.go (wa b8.go trivial))))))))) : A := h f ⟨b1⟩ ⟨b2⟩ ⟨b3⟩ ⟨b4⟩ ⟨b5⟩ ⟨b6⟩ ⟨b7⟩ ⟨b8⟩
theorem gB9 {F A B1 B2 B3 B4 B5 B6 B7 B8 B9 : Prop} (f : F) (b1 : B1) (b2 : B2) (b3 : B3) (b4 : B4) (b5 : B5) (b6 : B6) (b7 : B7) (b8 : B8) (b9 : B9) (h : F → Bx B1 → Bx B2 → Bx B3 → Bx B4 → Bx B5 → Bx B6 → Bx B7 → Bx B8 → Bx B9 → A := by intro f b1 b2 b3 b4 b5 b6 b7 b8 b9; exact gB @f (wa b1.go (wa b2.go (wa b3.go (wa b4.go (wa b5.go (wa b6.go (wa b7.go (wa b8.go (wa b9.go trivial)))))))))) : A := h f ⟨b1⟩ ⟨b2⟩ ⟨b3⟩ ⟨b4⟩ ⟨b5⟩ ⟨b6⟩ ⟨b7⟩ ⟨b8⟩ ⟨b9⟩
theorem gB10 {F A B1 B2 B3 B4 B5 B6 B7 B8 B9 B10 : Prop} (f : F) (b1 : B1) (b2 : B2) (b3 : B3) (b4 : B4) (b5 : B5) (b6 : B6) (b7 : B7) (b8 : B8) (b9 : B9) (b10 : B10) (h : F → Bx B1 → Bx B2 → Bx B3 → Bx B4 → Bx B5 → Bx B6 → Bx B7 → Bx B8 → Bx B9 → Bx B10 → A := by intro f b1 b2 b3 b4 b5 b6 b7 b8 b9 b10; exact gB @f (wa b1.go (wa b2.go (wa b3.go (wa b4.go (wa b5.go (wa b6.go (wa b7.go (wa b8.go (wa b9.go (wa b10.go trivial))))))))))) : A := h f ⟨b1⟩ ⟨b2⟩ ⟨b3⟩ ⟨b4⟩ ⟨b5⟩ ⟨b6⟩ ⟨b7⟩ ⟨b8⟩ ⟨b9⟩ ⟨b10⟩
theorem gB11 {F A B1 B2 B3 B4 B5 B6 B7 B8 B9 B10 B11 : Prop} (f : F) (b1 : B1) (b2 : B2) (b3 : B3) (b4 : B4) (b5 : B5) (b6 : B6) (b7 : B7) (b8 : B8) (b9 : B9) (b10 : B10) (b11 : B11) (h : F → Bx B1 → Bx B2 → Bx B3 → Bx B4 → Bx B5 → Bx B6 → Bx B7 → Bx B8 → Bx B9 → Bx B10 → Bx B11 → A := by intro f b1 b2 b3 b4 b5 b6 b7 b8 b9 b10 b11; exact gB @f (wa b1.go (wa b2.go (wa b3.go (wa b4.go (wa b5.go (wa b6.go (wa b7.go (wa b8.go (wa b9.go (wa b10.go (wa b11.go trivial)))))))))))) : A := h f ⟨b1⟩ ⟨b2⟩ ⟨b3⟩ ⟨b4⟩ ⟨b5⟩ ⟨b6⟩ ⟨b7⟩ ⟨b8⟩ ⟨b9⟩ ⟨b10⟩ ⟨b11⟩
theorem gB12 {F A B1 B2 B3 B4 B5 B6 B7 B8 B9 B10 B11 B12 : Prop} (f : F) (b1 : B1) (b2 : B2) (b3 : B3) (b4 : B4) (b5 : B5) (b6 : B6) (b7 : B7) (b8 : B8) (b9 : B9) (b10 : B10) (b11 : B11) (b12 : B12) (h : F → Bx B1 → Bx B2 → Bx B3 → Bx B4 → Bx B5 → Bx B6 → Bx B7 → Bx B8 → Bx B9 → Bx B10 → Bx B11 → Bx B12 → A := by intro f b1 b2 b3 b4 b5 b6 b7 b8 b9 b10 b11 b12; exact gB @f (wa b1.go (wa b2.go (wa b3.go (wa b4.go (wa b5.go (wa b6.go (wa b7.go (wa b8.go (wa b9.go (wa b10.go (wa b11.go (wa b12.go trivial))))))))))))) : A := h f ⟨b1⟩ ⟨b2⟩ ⟨b3⟩ ⟨b4⟩ ⟨b5⟩ ⟨b6⟩ ⟨b7⟩ ⟨b8⟩ ⟨b9⟩ ⟨b10⟩ ⟨b11⟩ ⟨b12⟩
theorem gC {F K A B : Prop} (f : F) (c : K) (b : B) (h : F → K → Bx B → A := by intro wf wc wb; (repeat' first | refine w_op rfl rfl ?_ | refine x_p rfl ?_ | refine w_sr ?_ | refine st_nil ?_ | refine w_seq ?_ | refine st_region ?_ | refine st_block ?_ | refine w_cond ?_ | refine b_t ?_ | refine b_f ?_ | refine st_skip ?_ | refine st_exit ?_ | refine st_ret ?_ | refine st_onNormN ?_ | refine st_onNormE ?_ | refine st_onNormR ?_ | refine st_onExitN ?_ | refine st_onExitR ?_ | refine st_onExitS ?_ | refine st_onExitO (by decide) ?_ | refine g_t ?_ | refine g_f rfl ?_ | refine o_op rfl ?_ | refine w_wr ?_ | refine w_wn ?_ | refine d_c rfl ?_ | refine d_on rfl ?_ | refine d_op rfl ?_ | refine d_y ?_ | refine d_gd rfl ?_ | refine d_t ?_ | refine d_f ?_ | refine d_nil ?_ | refine w_dg rfl ?_ | refine d_mid ?_ | refine d_mj ?_ | refine d_e ?_ | refine n_0 rfl ?_ | refine d_n ?_ | refine k_p rfl rfl rfl rfl (by first | exact wc.1 | exact wc.2.1 | exact wc.2.2.1 | exact wc.2.2.2.1 | exact wc.2.2.2.2.1 | exact wc.2.2.2.2.2.1 | exact wc.2.2.2.2.2.2.1 | exact wc.2.2.2.2.2.2.2.1 | exact wc.2.2.2.2.2.2.2.2.1 | exact wc.2.2.2.2.2.2.2.2.2.1 | exact wc.2.2.2.2.2.2.2.2.2.2.1 | exact wc.2.2.2.2.2.2.2.2.2.2.2.1 | exact wc.2.2.2.2.2.2.2.2.2.2.2.2.1 | exact wc.2.2.2.2.2.2.2.2.2.2.2.2.2.1) ?_ | refine k_o rfl rfl rfl ?_ | refine w_gd rfl ?_ | ((first | refine zE1 ?_ | refine w_cl rfl rfl ?_ | refine o_cl rfl ?_ | refine d_cl rfl ?_); (conv => arg 1; try simp only [go_sem, Nat.reduceEqDiff, reduceIte, Nat.reduceAdd, Nat.reduceLeDiff, Nat.reduceMul, Int.reduceEq, Int.reduceLT, Int.reduceLE, Int.reduceNeg, Int.reduceAdd, Int.reduceSub, Nat.reduceLT, Nat.reduceBEq, Nat.reduceSub, Nat.reducePow, Option.map_none, Option.isSome_none, Int.natCast_zero, rep, wf]); first | refine zE3 ?_ | refine zE2 ?_ | refine zE4 ?_ | refine zE5 ?_ | refine zE6 ?_ | refine zE7 ?_ | refine zE8 ?_) | (refine w_u true ?_; (conv => arg 1; reduce); refine zR1 ?_) | (refine b_s (fun hwk => ?_) (fun hwk => ?_) <;> ((try simp only [hn1, hn2, hn3, hn4] at hwk); first | (exfalso; omega) | skip)) | (first | refine g_s (fun hwk => ?_) (fun hwk => ?_) | refine d_s (fun hwk => ?_) (fun hwk => ?_)) <;> ((try simp only [hn1, hn2] at hwk); rw [hwk]; try simp only [hn3, hn4] at hwk)); (all_goals repeat revert hwk); all_goals (first | with_reducible exact wb.go.1 | with_reducible exact wb.go.2.1 | with_reducible exact wb.go.2.2.1 | with_reducible exact wb.go.2.2.2.1 | with_reducible exact wb.go.2.2.2.2.1 | with_reducible exact wb.go.2.2.2.2.2.1 | with_reducible exact wb.go.2.2.2.2.2.2.1 | with_reducible exact wb.go.2.2.2.2.2.2.2.1 | with_reducible exact wb.go.2.2.2.2.2.2.2.2.1 | with_reducible exact wb.go.2.2.2.2.2.2.2.2.2.1 | with_reducible exact wb.go.2.2.2.2.2.2.2.2.2.2.1 | with_reducible exact wb.go.2.2.2.2.2.2.2.2.2.2.2.1 | with_reducible exact wb.go.2.2.2.2.2.2.2.2.2.2.2.2.1)) : A := h f c ⟨b⟩
theorem gC0 {F K A : Prop} (f : F) (c : K) (h : F → K → A := by intro f c ; exact gC @f @c trivial) : A := h f c 
theorem gC1 {F K A B1 : Prop} (f : F) (c : K) (b1 : B1) (h : F → K → Bx B1 → A := by intro f c b1; exact gC @f @c (wa b1.go trivial)) : A := h f c ⟨b1⟩
theorem gC2 {F K A B1 B2 : Prop} (f : F) (c : K) (b1 : B1) (b2 : B2) (h : F → K → Bx B1 → Bx B2 → A := by intro f c b1 b2; exact gC @f @c (wa b1.go (wa b2.go trivial))) : A := h f c ⟨b1⟩ ⟨b2⟩
theorem gC3 {F K A B1 B2 B3 : Prop} (f : F) (c : K) (b1 : B1) (b2 : B2) (b3 : B3) (h : F → K → Bx B1 → Bx B2 → Bx B3 → A := by intro f c b1 b2 b3; exact gC @f @c (wa b1.go (wa b2.go (wa b3.go trivial)))) : A := h f c ⟨b1⟩ ⟨b2⟩ ⟨b3⟩
theorem gC4 {F K A B1 B2 B3 B4 : Prop} (f : F) (c : K) (b1 : B1) (b2 : B2) (b3 : B3) (b4 : B4) (h : F → K → Bx B1 → Bx B2 → Bx B3 → Bx B4 → A := by intro f c b1 b2 b3 b4; exact gC @f @c (wa b1.go (wa b2.go (wa b3.go (wa b4.go trivial))))) : A := h f c ⟨b1⟩ ⟨b2⟩ ⟨b3⟩ ⟨b4⟩
theorem gC5 {F K A B1 B2 B3 B4 B5 : Prop} (f : F) (c : K) (b1 : B1) (b2 : B2) (b3 : B3) (b4 : B4) (b5 : B5) (h : F → K → Bx B1 → Bx B2 → Bx B3 → Bx B4 → Bx B5 → A := by intro f c b1 b2 b3 b4 b5; exact gC @f @c (wa b1.go (wa b2.go (wa b3.go (wa b4.go (wa b5.go trivial)))))) : A := h f c ⟨b1⟩ ⟨b2⟩ ⟨b3⟩ ⟨b4⟩ ⟨b5⟩
theorem gC6 {F K A B1 B2 B3 B4 B5 B6 : Prop} (f : F) (c : K) (b1 : B1) (b2 : B2) (b3 : B3) (b4 : B4) (b5 : B5) (b6 : B6) (h : F → K → Bx B1 → Bx B2 → Bx B3 → Bx B4 → Bx B5 → Bx B6 → A := by intro f c b1 b2 b3 b4 b5 b6; exact gC @f @c (wa b1.go (wa b2.go (wa b3.go (wa b4.go (wa b5.go (wa b6.go trivial))))))) : A := h f c ⟨b1⟩ ⟨b2⟩ ⟨b3⟩ ⟨b4⟩ ⟨b5⟩ ⟨b6⟩
theorem gC7 {F K A B1 B2 B3 B4 B5 B6 B7 : Prop} (f : F) (c : K) (b1 : B1) (b2 : B2) (b3 : B3) (b4 : B4) (b5 : B5) (b6 : B6) (b7 : B7) (h : F → K → Bx B1 → Bx B2 → Bx B3 → Bx B4 → Bx B5 → Bx B6 → Bx B7 → A := by intro f c b1 b2 b3 b4 b5 b6 b7; exact gC @f @c (wa b1.go (wa b2.go (wa b3.go (wa b4.go (wa b5.go (wa b6.go (wa b7.go trivial)))))))) : A := h f c ⟨b1⟩ ⟨b2⟩ ⟨b3⟩ ⟨b4⟩ ⟨b5⟩ ⟨b6⟩ ⟨b7⟩
theorem gC8 {F K A B1 B2 B3 B4 B5 B6 B7 B8 : Prop} (f : F) (c : K) (b1 : B1) (b2 : B2) (b3 : B3) (b4 : B4) (b5 : B5) (b6 : B6) (b7 : B7) (b8 : B8) (h : F → K → Bx B1 → Bx B2 → Bx B3 → Bx B4 → Bx B5 → Bx B6 → Bx B7 → Bx B8 → A := by intro f c b1 b2 b3 b4 b5 b6 b7 b8; exact gC @f @c (wa b1.go (wa b2.go (wa b3.go (wa b4.go (wa b5.go (wa b6.go (wa b7.go (wa b8.go trivial))))))))) : A := h f c ⟨b1⟩ ⟨b2⟩ ⟨b3⟩ ⟨b4⟩ ⟨b5⟩ ⟨b6⟩ ⟨b7⟩ ⟨b8⟩
theorem gC9 {F K A B1 B2 B3 B4 B5 B6 B7 B8 B9 : Prop} (f : F) (c : K) (b1 : B1) (b2 : B2) (b3 : B3) (b4 : B4) (b5 : B5) (b6 : B6) (b7 : B7) (b8 : B8) (b9 : B9) (h : F → K → Bx B1 → Bx B2 → Bx B3 → Bx B4 → Bx B5 → Bx B6 → Bx B7 → Bx B8 → Bx B9 → A := by intro f c b1 b2 b3 b4 b5 b6 b7 b8 b9; exact gC @f @c (wa b1.go (wa b2.go (wa b3.go (wa b4.go (wa b5.go (wa b6.go (wa b7.go (wa b8.go (wa b9.go trivial)))))))))) : A := h f c ⟨b1⟩ ⟨b2⟩ ⟨b3⟩ ⟨b4⟩ ⟨b5⟩ ⟨b6⟩ ⟨b7⟩ ⟨b8⟩ ⟨b9⟩
theorem gC10 {F K A B1 B2 B3 B4 B5 B6 B7 B8 B9 B10 : Prop} (f : F) (c : K) (b1 : B1) (b2 : B2) (b3 : B3) (b4 : B4) (b5 : B5) (b6 : B6) (b7 : B7) (b8 : B8) (b9 : B9) (b10 : B10) (h : F → K → Bx B1 → Bx B2 → Bx B3 → Bx B4 → Bx B5 → Bx B6 → Bx B7 → Bx B8 → Bx B9 → Bx B10 → A := by intro f c b1 b2 b3 b4 b5 b6 b7 b8 b9 b10; exact gC @f @c (wa b1.go (wa b2.go (wa b3.go (wa b4.go (wa b5.go (wa b6.go (wa b7.go (wa b8.go (wa b9.go (wa b10.go trivial))))))))))) : A := h f c ⟨b1⟩ ⟨b2⟩ ⟨b3⟩ ⟨b4⟩ ⟨b5⟩ ⟨b6⟩ ⟨b7⟩ ⟨b8⟩ ⟨b9⟩ ⟨b10⟩
theorem gC11 {F K A B1 B2 B3 B4 B5 B6 B7 B8 B9 B10 B11 : Prop} (f : F) (c : K) (b1 : B1) (b2 : B2) (b3 : B3) (b4 : B4) (b5 : B5) (b6 : B6) (b7 : B7) (b8 : B8) (b9 : B9) (b10 : B10) (b11 : B11) (h : F → K → Bx B1 → Bx B2 → Bx B3 → Bx B4 → Bx B5 → Bx B6 → Bx B7 → Bx B8 → Bx B9 → Bx B10 → Bx B11 → A := by intro f c b1 b2 b3 b4 b5 b6 b7 b8 b9 b10 b11; exact gC @f @c (wa b1.go (wa b2.go (wa b3.go (wa b4.go (wa b5.go (wa b6.go (wa b7.go (wa b8.go (wa b9.go (wa b10.go (wa b11.go trivial)))))))))))) : A := h f c ⟨b1⟩ ⟨b2⟩ ⟨b3⟩ ⟨b4⟩ ⟨b5⟩ ⟨b6⟩ ⟨b7⟩ ⟨b8⟩ ⟨b9⟩ ⟨b10⟩ ⟨b11⟩
theorem gC12 {F K A B1 B2 B3 B4 B5 B6 B7 B8 B9 B10 B11 B12 : Prop} (f : F) (c : K) (b1 : B1) (b2 : B2) (b3 : B3) (b4 : B4) (b5 : B5) (b6 : B6) (b7 : B7) (b8 : B8) (b9 : B9) (b10 : B10) (b11 : B11) (b12 : B12) (h : F → K → Bx B1 → Bx B2 → Bx B3 → Bx B4 → Bx B5 → Bx B6 → Bx B7 → Bx B8 → Bx B9 → Bx B10 → Bx B11 → Bx B12 → A := by intro f c b1 b2 b3 b4 b5 b6 b7 b8 b9 b10 b11 b12; exact gC @f @c (wa b1.go (wa b2.go (wa b3.go (wa b4.go (wa b5.go (wa b6.go (wa b7.go (wa b8.go (wa b9.go (wa b10.go (wa b11.go (wa b12.go trivial))))))))))))) : A := h f c ⟨b1⟩ ⟨b2⟩ ⟨b3⟩ ⟨b4⟩ ⟨b5⟩ ⟨b6⟩ ⟨b7⟩ ⟨b8⟩ ⟨b9⟩ ⟨b10⟩ ⟨b11⟩ ⟨b12⟩
theorem gF {F K A B : Prop} (f : F) (c : K) (b : B) (h : F → K → Bx B → A := by intro wf wc wb; (repeat' first | refine w_op rfl rfl ?_ | refine x_p rfl ?_ | refine w_sr ?_ | refine st_nil ?_ | refine w_seq ?_ | refine st_region ?_ | refine st_block ?_ | refine w_cond ?_ | refine b_t ?_ | refine b_f ?_ | refine st_skip ?_ | refine st_exit ?_ | refine st_ret ?_ | refine st_onNormN ?_ | refine st_onNormE ?_ | refine st_onNormR ?_ | refine st_onExitN ?_ | refine st_onExitR ?_ | refine st_onExitS ?_ | refine st_onExitO (by decide) ?_ | refine g_t ?_ | refine g_f rfl ?_ | refine o_op rfl ?_ | refine w_wr ?_ | refine w_wn ?_ | refine d_c rfl ?_ | refine d_on rfl ?_ | refine d_op rfl ?_ | refine d_y ?_ | refine d_gd rfl ?_ | refine d_t ?_ | refine d_f ?_ | refine d_nil ?_ | refine w_dg rfl ?_ | refine d_mid ?_ | refine d_mj ?_ | refine d_e ?_ | refine n_0 rfl ?_ | refine d_n ?_ | refine k_p rfl rfl rfl rfl (by first | exact wc.1 | exact wc.2.1 | exact wc.2.2.1 | exact wc.2.2.2.1 | exact wc.2.2.2.2.1 | exact wc.2.2.2.2.2.1 | exact wc.2.2.2.2.2.2.1 | exact wc.2.2.2.2.2.2.2.1 | exact wc.2.2.2.2.2.2.2.2.1 | exact wc.2.2.2.2.2.2.2.2.2.1 | exact wc.2.2.2.2.2.2.2.2.2.2.1 | exact wc.2.2.2.2.2.2.2.2.2.2.2.1 | exact wc.2.2.2.2.2.2.2.2.2.2.2.2.1 | exact wc.2.2.2.2.2.2.2.2.2.2.2.2.2.1) ?_ | refine k_o rfl rfl rfl ?_ | refine k_z rfl ?_ | refine z_f rfl rfl (by first | exact wc.1 | exact wc.2.1 | exact wc.2.2.1 | exact wc.2.2.2.1 | exact wc.2.2.2.2.1 | exact wc.2.2.2.2.2.1 | exact wc.2.2.2.2.2.2.1 | exact wc.2.2.2.2.2.2.2.1 | exact wc.2.2.2.2.2.2.2.2.1 | exact wc.2.2.2.2.2.2.2.2.2.1 | exact wc.2.2.2.2.2.2.2.2.2.2.1 | exact wc.2.2.2.2.2.2.2.2.2.2.2.1 | exact wc.2.2.2.2.2.2.2.2.2.2.2.2.1 | exact wc.2.2.2.2.2.2.2.2.2.2.2.2.2.1) rfl ?_ | refine z_g rfl rfl (by first | exact wc.1 | exact wc.2.1 | exact wc.2.2.1 | exact wc.2.2.2.1 | exact wc.2.2.2.2.1 | exact wc.2.2.2.2.2.1 | exact wc.2.2.2.2.2.2.1 | exact wc.2.2.2.2.2.2.2.1 | exact wc.2.2.2.2.2.2.2.2.1 | exact wc.2.2.2.2.2.2.2.2.2.1 | exact wc.2.2.2.2.2.2.2.2.2.2.1 | exact wc.2.2.2.2.2.2.2.2.2.2.2.1 | exact wc.2.2.2.2.2.2.2.2.2.2.2.2.1 | exact wc.2.2.2.2.2.2.2.2.2.2.2.2.2.1) rfl ?_ | refine z_of rfl rfl (by first | exact wc.1 | exact wc.2.1 | exact wc.2.2.1 | exact wc.2.2.2.1 | exact wc.2.2.2.2.1 | exact wc.2.2.2.2.2.1 | exact wc.2.2.2.2.2.2.1 | exact wc.2.2.2.2.2.2.2.1 | exact wc.2.2.2.2.2.2.2.2.1 | exact wc.2.2.2.2.2.2.2.2.2.1 | exact wc.2.2.2.2.2.2.2.2.2.2.1 | exact wc.2.2.2.2.2.2.2.2.2.2.2.1 | exact wc.2.2.2.2.2.2.2.2.2.2.2.2.1 | exact wc.2.2.2.2.2.2.2.2.2.2.2.2.2.1) rfl ?_ | refine z_og rfl rfl (by first | exact wc.1 | exact wc.2.1 | exact wc.2.2.1 | exact wc.2.2.2.1 | exact wc.2.2.2.2.1 | exact wc.2.2.2.2.2.1 | exact wc.2.2.2.2.2.2.1 | exact wc.2.2.2.2.2.2.2.1 | exact wc.2.2.2.2.2.2.2.2.1 | exact wc.2.2.2.2.2.2.2.2.2.1 | exact wc.2.2.2.2.2.2.2.2.2.2.1 | exact wc.2.2.2.2.2.2.2.2.2.2.2.1 | exact wc.2.2.2.2.2.2.2.2.2.2.2.2.1 | exact wc.2.2.2.2.2.2.2.2.2.2.2.2.2.1) rfl ?_ | refine d_m (Nat.le_refl _) ?_ | refine w_gd rfl ?_ | ((first | refine zE1 ?_ | refine w_cl rfl rfl ?_ | refine o_cl rfl ?_ | refine d_cl rfl ?_); (conv => arg 1; try simp only [go_sem, Nat.reduceEqDiff, reduceIte, Nat.reduceAdd, Nat.reduceLeDiff, Nat.reduceMul, Int.reduceEq, Int.reduceLT, Int.reduceLE, Int.reduceNeg, Int.reduceAdd, Int.reduceSub, Nat.reduceLT, Nat.reduceBEq, Nat.reduceSub, Nat.reducePow, Option.map_none, Option.isSome_none, Int.natCast_zero, rep, wf]); first | refine zE3 ?_ | refine zE2 ?_ | refine zE4 ?_ | refine zE5 ?_ | refine zE6 ?_ | refine zE7 ?_ | refine zE8 ?_) | (refine w_u true ?_; (conv => arg 1; reduce); refine zR1 ?_) | (refine b_s (fun hwk => ?_) (fun hwk => ?_) <;> ((try simp only [hn1, hn2, hn3, hn4] at hwk); first | (exfalso; omega) | skip)) | (first | refine g_s (fun hwk => ?_) (fun hwk => ?_) | refine d_s (fun hwk => ?_) (fun hwk => ?_)) <;> ((try simp only [hn1, hn2] at hwk); rw [hwk]; try simp only [hn3, hn4] at hwk)); (all_goals repeat revert hwk); all_goals (first | with_reducible exact wb.go.1 | with_reducible exact wb.go.2.1 | with_reducible exact wb.go.2.2.1 | with_reducible exact wb.go.2.2.2.1 | with_reducible exact wb.go.2.2.2.2.1 | with_reducible exact wb.go.2.2.2.2.2.1 | with_reducible exact wb.go.2.2.2.2.2.2.1 | with_reducible exact wb.go.2.2.2.2.2.2.2.1 | with_reducible exact wb.go.2.2.2.2.2.2.2.2.1 | with_reducible exact wb.go.2.2.2.2.2.2.2.2.2.1 | with_reducible exact wb.go.2.2.2.2.2.2.2.2.2.2.1 | with_reducible exact wb.go.2.2.2.2.2.2.2.2.2.2.2.1 | with_reducible exact wb.go.2.2.2.2.2.2.2.2.2.2.2.2.1)) : A := h f c ⟨b⟩
theorem gF0 {F K A : Prop} (f : F) (c : K) (h : F → K → A := by intro f c ; exact gF @f @c trivial) : A := h f c 
theorem gF1 {F K A B1 : Prop} (f : F) (c : K) (b1 : B1) (h : F → K → Bx B1 → A := by intro f c b1; exact gF @f @c (wa b1.go trivial)) : A := h f c ⟨b1⟩
theorem gF2 {F K A B1 B2 : Prop} (f : F) (c : K) (b1 : B1) (b2 : B2) (h : F → K → Bx B1 → Bx B2 → A := by intro f c b1 b2; exact gF @f @c (wa b1.go (wa b2.go trivial))) : A := h f c ⟨b1⟩ ⟨b2⟩
theorem gF3 {F K A B1 B2 B3 : Prop} (f : F) (c : K) (b1 : B1) (b2 : B2) (b3 : B3) (h : F → K → Bx B1 → Bx B2 → Bx B3 → A := by intro f c b1 b2 b3; exact gF @f @c (wa b1.go (wa b2.go (wa b3.go trivial)))) : A := h f c ⟨b1⟩ ⟨b2⟩ ⟨b3⟩
theorem gF4 {F K A B1 B2 B3 B4 : Prop} (f : F) (c : K) (b1 : B1) (b2 : B2) (b3 : B3) (b4 : B4) (h : F → K → Bx B1 → Bx B2 → Bx B3 → Bx B4 → A := by intro f c b1 b2 b3 b4; exact gF @f @c (wa b1.go (wa b2.go (wa b3.go (wa b4.go trivial))))) : A := h f c ⟨b1⟩ ⟨b2⟩ ⟨b3⟩ ⟨b4⟩
theorem gF5 {F K A B1 B2 B3 B4 B5 : Prop} (f : F) (c : K) (b1 : B1) (b2 : B2) (b3 : B3) (b4 : B4) (b5 : B5) (h : F → K → Bx B1 → Bx B2 → Bx B3 → Bx B4 → Bx B5 → A := by intro f c b1 b2 b3 b4 b5; exact gF @f @c (wa b1.go (wa b2.go (wa b3.go (wa b4.go (wa b5.go trivial)))))) : A := h f c ⟨b1⟩ ⟨b2⟩ ⟨b3⟩ ⟨b4⟩ ⟨b5⟩
theorem gF6 {F K A B1 B2 B3 B4 B5 B6 : Prop} (f : F) (c : K) (b1 : B1) (b2 : B2) (b3 : B3) (b4 : B4) (b5 : B5) (b6 : B6) (h : F → K → Bx B1 → Bx B2 → Bx B3 → Bx B4 → Bx B5 → Bx B6 → A := by intro f c b1 b2 b3 b4 b5 b6; exact gF @f @c (wa b1.go (wa b2.go (wa b3.go (wa b4.go (wa b5.go (wa b6.go trivial))))))) : A := h f c ⟨b1⟩ ⟨b2⟩ ⟨b3⟩ ⟨b4⟩ ⟨b5⟩ ⟨b6⟩
theorem gF7 {F K A B1 B2 B3 B4 B5 B6 B7 : Prop} (f : F) (c : K) (b1 : B1) (b2 : B2) (b3 : B3) (b4 : B4) (b5 : B5) (b6 : B6) (b7 : B7) (h : F → K → Bx B1 → Bx B2 → Bx B3 → Bx B4 → Bx B5 → Bx B6 → Bx B7 → A := by intro f c b1 b2 b3 b4 b5 b6 b7; exact gF @f @c (wa b1.go (wa b2.go (wa b3.go (wa b4.go (wa b5.go (wa b6.go (wa b7.go trivial)))))))) : A := h f c ⟨b1⟩ ⟨b2⟩ ⟨b3⟩ ⟨b4⟩ ⟨b5⟩ ⟨b6⟩ ⟨b7⟩
theorem gF8 {F K A B1 B2 B3 B4 B5 B6 B7 B8 : Prop} (f : F) (c : K) (b1 : B1) (b2 : B2) (b3 : B3) (b4 : B4) (b5 : B5) (b6 : B6) (b7 : B7) (b8 : B8) (h : F → K → Bx B1 → Bx B2 → Bx B3 → Bx B4 → Bx B5 → Bx B6 → Bx B7 → Bx B8 → A := by intro f c b1 b2 b3 b4 b5 b6 b7 b8; exact gF @f @c (wa b1.go (wa b2.go (wa b3.go (wa b4.go (wa b5.go (wa b6.go (wa b7.go (wa b8.go trivial))))))))) : A := h f c ⟨b1⟩ ⟨b2⟩ ⟨b3⟩ ⟨b4⟩ ⟨b5⟩ ⟨b6⟩ ⟨b7⟩ ⟨b8⟩
theorem gF9 {F K A B1 B2 B3 B4 B5 B6 B7 B8 B9 : Prop} (f : F) (c : K) (b1 : B1) (b2 : B2) (b3 : B3) (b4 : B4) (b5 : B5) (b6 : B6) (b7 : B7) (b8 : B8) (b9 : B9) (h : F → K → Bx B1 → Bx B2 → Bx B3 → Bx B4 → Bx B5 → Bx B6 → Bx B7 → Bx B8 → Bx B9 → A := by intro f c b1 b2 b3 b4 b5 b6 b7 b8 b9; exact gF @f @c (wa b1.go (wa b2.go (wa b3.go (wa b4.go (wa b5.go (wa b6.go (wa b7.go (wa b8.go (wa b9.go trivial)))))))))) : A := h f c ⟨b1⟩ ⟨b2⟩ ⟨b3⟩ ⟨b4⟩ ⟨b5⟩ ⟨b6⟩ ⟨b7⟩ ⟨b8⟩ ⟨b9⟩
theorem gF10 {F K A B1 B2 B3 B4 B5 B6 B7 B8 B9 B10 : Prop} (f : F) (c : K) (b1 : B1) (b2 : B2) (b3 : B3) (b4 : B4) (b5 : B5) (b6 : B6) (b7 : B7) (b8 : B8) (b9 : B9) (b10 : B10) (h : F → K → Bx B1 → Bx B2 → Bx B3 → Bx B4 → Bx B5 → Bx B6 → Bx B7 → Bx B8 → Bx B9 → Bx B10 → A := by intro f c b1 b2 b3 b4 b5 b6 b7 b8 b9 b10; exact gF @f @c (wa b1.go (wa b2.go (wa b3.go (wa b4.go (wa b5.go (wa b6.go (wa b7.go (wa b8.go (wa b9.go (wa b10.go trivial))))))))))) : A := h f c ⟨b1⟩ ⟨b2⟩ ⟨b3⟩ ⟨b4⟩ ⟨b5⟩ ⟨b6⟩ ⟨b7⟩ ⟨b8⟩ ⟨b9⟩ ⟨b10⟩
theorem gF11 {F K A B1 B2 B3 B4 B5 B6 B7 B8 B9 B10 B11 : Prop} (f : F) (c : K) (b1 : B1) (b2 : B2) (b3 : B3) (b4 : B4) (b5 : B5) (b6 : B6) (b7 : B7) (b8 : B8) (b9 : B9) (b10 : B10) (b11 : B11) (h : F → K → Bx B1 → Bx B2 → Bx B3 → Bx B4 → Bx B5 → Bx B6 → Bx B7 → Bx B8 → Bx B9 → Bx B10 → Bx B11 → A := by intro f c b1 b2 b3 b4 b5 b6 b7 b8 b9 b10 b11; exact gF @f @c (wa b1.go (wa b2.go (wa b3.go (wa b4.go (wa b5.go (wa b6.go (wa b7.go (wa b8.go (wa b9.go (wa b10.go (wa b11.go trivial)))))))))))) : A := h f c ⟨b1⟩ ⟨b2⟩ ⟨b3⟩ ⟨b4⟩ ⟨b5⟩ ⟨b6⟩ ⟨b7⟩ ⟨b8⟩ ⟨b9⟩ ⟨b10⟩ ⟨b11⟩
theorem gF12 {F K A B1 B2 B3 B4 B5 B6 B7 B8 B9 B10 B11 B12 : Prop} (f : F) (c : K) (b1 : B1) (b2 : B2) (b3 : B3) (b4 : B4) (b5 : B5) (b6 : B6) (b7 : B7) (b8 : B8) (b9 : B9) (b10 : B10) (b11 : B11) (b12 : B12) (h : F → K → Bx B1 → Bx B2 → Bx B3 → Bx B4 → Bx B5 → Bx B6 → Bx B7 → Bx B8 → Bx B9 → Bx B10 → Bx B11 → Bx B12 → A := by intro f c b1 b2 b3 b4 b5 b6 b7 b8 b9 b10 b11 b12; exact gF @f @c (wa b1.go (wa b2.go (wa b3.go (wa b4.go (wa b5.go (wa b6.go (wa b7.go (wa b8.go (wa b9.go (wa b10.go (wa b11.go (wa b12.go trivial))))))))))))) : A := h f c ⟨b1⟩ ⟨b2⟩ ⟨b3⟩ ⟨b4⟩ ⟨b5⟩ ⟨b6⟩ ⟨b7⟩ ⟨b8⟩ ⟨b9⟩ ⟨b10⟩ ⟨b11⟩ ⟨b12⟩
end Go.Proofs.Bv
