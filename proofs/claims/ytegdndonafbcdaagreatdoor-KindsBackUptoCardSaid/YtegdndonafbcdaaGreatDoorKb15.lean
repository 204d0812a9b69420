/-
  A part of the proof of KindsBackUptoCardSaid: BkC2, BkSize, BkDeep, BkRises, BkKeyOrd, BkSearch, BkUsed, BkOr, BkNat1.
  Conditions: those that each part names.
-/
import Derived.Test.YtegdndonafbcdaaGreatDoorKb14
set_option linter.unusedSimpArgs false
set_option linter.unusedVariables false
namespace Go.Proofs.Bv
open Go
open Classical in
noncomputable def orcL (G : Nat → Option (List AV)) (f : FuncId) : List AV → Option AV := fun args => if h : ∃ r, Pc (Cf G) f args r then some h.choose else none
theorem orcL_of {G : Nat → Option (List AV)} {f : FuncId} {args : List AV} {r : AV} (h : Pc (Cf G) f args r) : orcL G f args = some r := by
  have h' : ∃ r, Pc (Cf G) f args r := ⟨r, h⟩
  unfold orcL
  rw [dif_pos h', Pc_det h'.choose_spec h]
theorem orcL_inv {G : Nat → Option (List AV)} {f : FuncId} {args : List AV} {r : AV} (h : orcL G f args = some r) : Pc (Cf G) f args r := by
  unfold orcL at h
  split at h
  · rename_i h'
    injection h with h
    rw [← h]
    exact h'.choose_spec
  · cases h
def spec63 : List AV → Bool
  | [.agg (.sc (.int .i64 0) :: _ :: _ :: _ :: _ :: .psl (_ :: _) _ :: _)] => true
  | _ => false
noncomputable def orcN (G : Nat → Option (List AV)) : List AV → Option AV := fun args => if spec63 args = true then none else orcL G 63 args
def own2 (f : FuncId) : Bool := f == 60 || f == 58 || f == 63
def inl2 (f : FuncId) : Bool := f == 59 || f == 61 || f == 115 || f == 116 || f == 139 || f == 140 || f == 82 || f == 113 || f == 174
def walk2 (f : FuncId) : Bool := f == 8 || f == 22 || f == 35 || f == 62
noncomputable def orc2 (G : Nat → Option (List AV)) (f : FuncId) : Option (List AV → Option AV) :=
  if f = 172 then some orcDecode else if f = 114 then some orcEmpty else if f = 115 then some orcEmpty else if f = 116 then some orcEmpty else if f = 63 then some (orcN G)
  else if (own2 f || inl2 f || walk2 f) = true then none else some (orcL G f)
noncomputable def C2 (G : Nat → Option (List AV)) : Cfg := ⟨Tryz.prog, G, inl2, orc2 G, own2⟩
theorem C2P {G : Nat → Option (List AV)} : (C2 G).P = Tryz.prog := rfl
attribute [go_sem] C2P
theorem nn2 (G : Nat → Option (List AV)) : NoNum (C2 G) := nn G
set_option maxRecDepth 100000 in
theorem pc_upon {mx : Int} {f : FuncId} {args : List AV} {v : AV} (hc : Pc (Cf (Gu8 mx)) f args v) {Z : Nat → Prop} {w : World} {us : List Value} (hr : HR (Cf (Gu8 mx)) noMap Z noHeap w) (hus : RVl Z w args noMap us)
    (r : Option Nat) (o : Oper) (a : Act) (next : Act → World → Prop) (Q : Exit → Act → World → Prop)
    (hn : ∀ u w1 m1 Z1 h1 n1, Step (Cf (Gu8 mx)) noMap Z noHeap 0 w m1 Z1 h1 n1 w1 → RV Z1 w1 v noMap u → next (a.put o.dst u) w1) :
    o.uponIn (Fw r) 0 (Cf (Gu8 mx)).P a next Q ((callFunc f us.toArray).run (Cf (Gu8 mx)).P w) := by
  obtain ⟨k, hk⟩ := hc
  unfold pcall at hk
  split at hk <;> try (cases hk; done)
  rename_i r1 h1 n1 he
  simp only [Option.map_eq_some_iff] at hk
  obtain ⟨⟨pr, ids1⟩, hfz, rfl⟩ := hk
  refine upon_fc (lv_ok (nn _) (orcOk mx) mix k).1 he (Nat.zero_le _) hr hus (fun _ _ _ => rfl) r o a next Q fun u w1 m1 Z1 s hu => ?_
  have hd1 := frz_dom h1 64 hfz
  have hu1 := frz_sound s.hr (Z' := Zof Z1 m1 ids1) (fun _ h => .inl h) 64 hfz (fun b hb mb e => .inr ⟨b, hb, mb, e, rfl⟩) hu
  have hk : ∀ r, r < w.heap.size → w1.heap[r]? = w.heap[r]? := fun r hr' => s.frame r hr' no_own
  have key : ∀ r, Z1 r → Z r ∨ w.heap.size ≤ r := fun r e => by
    rcases s.znew r e with e | e | e
    · exact .inl e
    · exact .inr e
    · exact absurd e no_own
  have sh := Step.shut (n := 0) hr (ids := []) (fun b hb => by simp at hb) (Z2 := Zof Z1 m1 ids1) s.size hk (fun r e => by
      rcases e with e | ⟨b, hb, _⟩
      · exact .inl (s.zext r e)
      · simp at hb) (fun r e => by
      rcases e with e | ⟨b, hb, mb, e1, e2⟩
      · exact (key r e).imp .inl id
      · by_cases hz : Z1 r
        · exact (key r hz).imp .inl id
        · rcases Nat.lt_or_ge r w.heap.size with hlt | hge
          · obtain ⟨cs, es, fz, e3⟩ := hd1 b hb
            exact absurd (s.dom r hlt ⟨b, _, mb, e3, e1, e2, hz⟩) no_own
          · exact .inr hge) (fun r e => by
      rcases e with e | ⟨b, hb, mb, e1, e2⟩
      · exact s.hr.zlt r e
      · obtain ⟨cs, es, fz, e3⟩ := hd1 b hb
        rw [← e2]
        exact s.hr.lt e3 e1) s.os s.tape s.output
  exact hn u w1 noMap _ _ 0 sh hu1
set_option maxRecDepth 100000 in
theorem orcOk2 (mx : Int) : OrcOk (C2 (Gu8 mx)) := by
  intro f g ars v hf hg Z w us hr hus r o a next Q hn
  have hf' : orc2 (Gu8 mx) f = some g := hf
  have hr' : HR (Cf (Gu8 mx)) noMap Z noHeap w := HR_cfg (C := C2 (Gu8 mx)) (C' := Cf (Gu8 mx)) rfl hr
  have hn' : ∀ u w1 m1 Z1 h1 n1, Step (Cf (Gu8 mx)) noMap Z noHeap 0 w m1 Z1 h1 n1 w1 → RV Z1 w1 v noMap u → next (a.put o.dst u) w1 :=
    fun u w1 m1 Z1 h1 n1 s => hn u w1 m1 Z1 h1 n1 (Step_cfg (C := Cf (Gu8 mx)) (C' := C2 (Gu8 mx)) rfl s)
  have clone : g = orcEmpty → ClOk (Gu8 mx) f → o.uponIn (Fw r) 0 (C2 (Gu8 mx)).P a next Q ((callFunc f us.toArray).run (C2 (Gu8 mx)).P w) := by
    intro hgo hc
    subst hgo
    unfold orcEmpty at hg
    split at hg <;> try (cases hg; done)
    injection hg with hg
    subst hg
    exact clone_upon (f := f) (cs := []) (len := 0) hc (fun h => by omega) (fun _ => rfl) (fun h => by omega) Z w us hr' hus r o a next Q hn'
  unfold orc2 at hf'
  split at hf'
  · rename_i e; subst e
    exact orcOk mx 172 g ars v hf' hg Z w us hr' hus r o a next Q hn'
  split at hf'
  · rename_i e; subst e; injection hf' with hf'; exact clone hf'.symm (cl114 _)
  · split at hf'
    · rename_i e; subst e; injection hf' with hf'; exact clone hf'.symm (cl115 _)
    · split at hf'
      · rename_i e; subst e; injection hf' with hf'; exact clone hf'.symm (cl116 _)
      · split at hf'
        · rename_i e
          subst e
          injection hf' with hf'
          subst hf'
          unfold orcN at hg
          split at hg
          · cases hg
          · exact pc_upon (orcL_inv hg) hr' hus r o a next Q hn'
        · split at hf'
          · cases hf'
          · injection hf' with hf'
            subst hf'
            exact pc_upon (orcL_inv hg) hr' hus r o a next Q hn'
end Go.Proofs.Bv
namespace Go.Proofs.Bv
open Go
mutual
def size : JV → Int
  | .mk _ _ _ _ _ l _ => min (sizes l 1) 1048576
def sizes : List JV → Int → Int
  | [], n => n
  | x :: r, n => if 1048576 ≤ n then n else sizes r (n + size x)
end
mutual
theorem size_rng : (v : JV) → 1 ≤ size v ∧ size v ≤ 1048576
  | .mk _ _ _ _ _ l _ => by
    have := sizes_rng l 1 (by omega)
    simp only [size]
    omega
theorem sizes_rng : (l : List JV) → (n : Int) → 1 ≤ n → 1 ≤ sizes l n
  | [], n, h => h
  | x :: r, n, h => by
    have := size_rng x
    simp only [sizes]
    split
    · exact h
    · exact sizes_rng r _ (by omega)
end
theorem ok94 : codeOk 22 (Tryz.f94.body.getD .skip) = true := by kernel_rfl
theorem pc94 (G : Nat → Option (List AV)) : (v : JV) → Fit v → Pc (Cf G) 94 [.agg (enc v)] (.sc (.int .i64 (size v)))
  | .mk kk ng cf ex t l ks => fun hfit => by
    have hnl := hfit.1.nlist
    have ih : ∀ x ∈ l, Pc (Cf G) 94 [.agg (enc x)] (.sc (.int .i64 (size x))) := fun x hx => pc94 G x (Fits_mem hfit.2 x hx)
    refine Pc_of (Gf_enter (C := Cf G) Tryz.func94 rfl ok94 (Nat.le_of_ble_eq_true rfl) ?_)
    simp only [Tryz.f94, Option.getD_some]
    refine wB1 trivial ?_
    refine Gc_loop_inv (fun m s => ∃ d r acc, l = d ++ r ∧ m = r.length ∧ s.T 7 = .psl (encs l) l.length ∧ s.T 8 = .sc (.int .i64 l.length) ∧ s.T 9 = .sc (.int .i64 d.length) ∧ s.T 3 = .sc (.int .i64 acc) ∧ sizes r acc = sizes l 1 ∧ 1 ≤ acc ∧ acc ≤ 2097152) ?_ l.length _ ⟨[], l, 1, rfl, rfl, ?_⟩
    · rintro m ⟨T, h, n⟩ ⟨d, r, acc, hl, rfl, h7, h8, h9, h3, hs, ha1, ha2⟩
      simp only at h7 h8 h9 h3
      have hdl : d.length ≤ l.length := by rw [hl]; simp
      (focus refine wB2 (wa h7 (wa h8 (wa h9 h3))) ?_ ?_; intro hb; rotate_left; intro hb; rotate_left)
      · have hlt : d.length < l.length := by omega
        obtain ⟨x, r, rfl, hmem, hcut, hle⟩ := split_at hl hlt
        have hx := ih x hmem
        have hrg := size_rng x
        obtain ⟨k', n', c', e', t', l', ks'⟩ := x
        simp only [sizes] at hs
        simp only [enc] at hx
        (focus refine wC2 (wa h7 (wa h8 (wa h9 (wa h3 (wa hlt (wa hle hcut)))))) (wa hx trivial) ?_ ?_; intro hb; rotate_left; intro hb; rotate_left)
        · rw [if_pos hb] at hs
          simp only [one1, frz_sc, Option.map_some, Option.some.injEq, AV.sc.injEq, Value.int.injEq, true_and, size]
          omega
        · rw [if_neg hb] at hs
          refine ⟨r.length, by simp, d ++ [.mk k' n' c' e' t' l' ks'], r, acc + size (.mk k' n' c' e' t' l' ks'), by simp [hl], rfl, ?_, ?_, ?_, ?_, hs, by omega, by omega⟩
          all_goals simp [upd_ap, h7, h8]
          · rw [i64 (by omega) (by omega)]
          · rw [i64 (by omega) (by omega)]
      · obtain rfl := split_end hl hb
        simp only [sizes] at hs
        simp only [one1, frz_sc, Option.map_some, Option.some.injEq, AV.sc.injEq, Value.int.injEq, true_and, size]
        omega
    · simp [upd_ap]
  termination_by v => v
  decreasing_by
    simp_wf
    have := List.sizeOf_lt_of_mem hx
    omega
end Go.Proofs.Bv
namespace Go.Proofs.Bv
open Go
mutual
def deep : JV → Int → Int
  | .mk k _ _ _ _ l _, left => if (k ≠ 5 ∧ k ≠ 6) ∨ left = 0 then 0 else deeps l (left - 1) 0 + 1
def deeps : List JV → Int → Int → Int
  | [], _, n => n
  | x :: r, left, n => deeps r left (max n (deep x left))
end
mutual
theorem deep_rng : (v : JV) → (left : Int) → 0 ≤ left → 0 ≤ deep v left ∧ deep v left ≤ left
  | .mk k _ _ _ _ l _, left, h => by
    simp only [deep]
    split
    · omega
    · have := deeps_rng l (left - 1) 0 (by omega) (by omega) (by omega)
      omega
theorem deeps_rng : (l : List JV) → (left n : Int) → 0 ≤ left → 0 ≤ n → n ≤ left → 0 ≤ deeps l left n ∧ deeps l left n ≤ left
  | [], left, n, h, h1, h2 => by simp only [deeps]; omega
  | x :: r, left, n, h, h1, h2 => by
    have := deep_rng x left h
    simp only [deeps]
    exact deeps_rng r left _ h (by omega) (by omega)
end
theorem ok150 : codeOk 36 (Tryz.f150.body.getD .skip) = true := by kernel_rfl
theorem pc150 (G : Nat → Option (List AV)) : (v : JV) → (left : Int) → Fit v → 0 ≤ left → left ≤ 1000 → Pc (Cf G) 150 [.agg (enc v), .sc (.int .i64 left)] (.sc (.int .i64 (deep v left)))
  | .mk kk ng cf ex t l ks, left => fun hfit hl0 hl1 => by
    have hnl := hfit.1.nlist
    have ih : ∀ x ∈ l, 0 ≤ left - 1 → Pc (Cf G) 150 [.agg (enc x), .sc (.int .i64 (left - 1))] (.sc (.int .i64 (deep x (left - 1)))) := fun x hx h => pc150 G x (left - 1) (Fits_mem hfit.2 x hx) h (by omega)
    refine Pc_of (Gf_enter (C := Cf G) Tryz.func150 rfl ok150 (Nat.le_of_ble_eq_true rfl) ?_)
    simp only [Tryz.f150, Option.getD_some]
    by_cases hc : (kk ≠ 5 ∧ kk ≠ 6) ∨ left = 0
    · have hd : deep (.mk kk ng cf ex t l ks) left = 0 := by simp only [deep, if_pos hc]
      rw [hd]
      by_cases h5 : kk = 5
      · obtain rfl : left = 0 := by omega
        subst h5
        refine wB1 trivial ?_
        simp only [one1, frz_sc, Option.map_some]
      · by_cases h6 : kk = 6
        · obtain rfl : left = 0 := by omega
          subst h6
          refine wB1 trivial ?_
          simp only [one1, frz_sc, Option.map_some]
        · refine wB1 (wa h5 h6) ?_
          simp only [one1, frz_sc, Option.map_some]
    · have hz : ¬ left = 0 := by omega
      have hd : deep (.mk kk ng cf ex t l ks) left = deeps l (left - 1) 0 + 1 := by simp only [deep, if_neg hc]
      rw [hd]
      have h56 : kk = 5 ∨ kk = 6 := by omega
      clear hc hd
      rcases h56 with rfl | rfl
      all_goals
        refine wB1 hz ?_
        refine Gc_loop_inv (fun m s => ∃ d r acc, l = d ++ r ∧ m = r.length ∧ s.T 1 = .sc (.int .i64 left) ∧ s.T 21 = .psl (encs l) l.length ∧ s.T 22 = .sc (.int .i64 l.length) ∧ s.T 23 = .sc (.int .i64 d.length) ∧ s.T 5 = .sc (.int .i64 acc) ∧ deeps r (left - 1) acc = deeps l (left - 1) 0 ∧ 0 ≤ acc ∧ acc ≤ 1000) ?_ l.length _ ⟨[], l, 0, rfl, rfl, ?_⟩
        · rintro m ⟨T, h, n⟩ ⟨d, r, acc, hl, rfl, h1, h21, h22, h23, h5, hs, ha1, ha2⟩
          simp only at h1 h21 h22 h23 h5
          have hdl : d.length ≤ l.length := by rw [hl]; simp
          (focus refine wB2 (wa h1 (wa h21 (wa h22 (wa h23 h5)))) ?_ ?_; intro hb; rotate_left; intro hb; rotate_left)
          · have hlt : d.length < l.length := by omega
            obtain ⟨x, r, rfl, hmem, hcut, hle⟩ := split_at hl hlt
            have hx := ih x hmem (by omega)
            have hrg := deep_rng x (left - 1) (by omega)
            have hsub : IntKind.i64.wrap (left - 1) = left - 1 := i64 (by omega) (by omega)
            obtain ⟨k', n', c', e', t', l', ks'⟩ := x
            simp only [deeps] at hs
            simp only [enc] at hx
            refine wC1 (wa h1 (wa h21 (wa h22 (wa h23 (wa h5 (wa hlt (wa hle (wa hcut hsub)))))))) (wa hx trivial) ?_
            refine ⟨r.length, by simp, d ++ [.mk k' n' c' e' t' l' ks'], r, max acc (deep (.mk k' n' c' e' t' l' ks') (left - 1)), by simp [hl], rfl, ?_, ?_, ?_, ?_, ?_, hs, by omega, by omega⟩
            all_goals simp [upd_ap, h1, h21, h22]
            · rw [i64 (by omega) (by omega)]
          · obtain rfl := split_end hl hb
            simp only [deeps] at hs
            refine wB1 h5 ?_
            simp only [one1, frz_sc, Option.map_some, Option.some.injEq, AV.sc.injEq, Value.int.injEq, true_and]
            rw [i64 (by omega) (by omega)]
            omega
        · simp [upd_ap]
          simp [argsT]
  termination_by v => v
  decreasing_by
    simp_wf
    have := List.sizeOf_lt_of_mem hx
    omega
end Go.Proofs.Bv
namespace Go.Proofs.Bv
open Go
def sle (a b : ByteArray) : Bool := Op.bytesLess a.toList b.toList || a.toList == b.toList
def riseAt : ByteArray → List ByteArray → Bool
  | _, [] => true
  | p, k :: r => !sle k p && riseAt k r
def rises : List ByteArray → Bool
  | [] => true
  | k :: r => riseAt k r
def riseFrom (d r : List ByteArray) : Bool := match d.getLast? with | none => rises r | some p => riseAt p r
theorem riseFrom_concat (d : List ByteArray) (p : ByteArray) (r : List ByteArray) : riseFrom (d.concat p) r = riseAt p r := by simp [riseFrom]
theorem strs_at {ks d r : List ByteArray} {k : ByteArray} (h : ks = d ++ k :: r) : (strs ks)[d.length * 1]? = some (.sc (.string k)) := by
  subst h
  simp [strs]
theorem ok156 : codeOk 24 (Tryz.f156.body.getD .skip) = true := by kernel_rfl
set_option maxHeartbeats 1000000 in
theorem pc156 (G : Nat → Option (List AV)) (ks : List ByteArray) (hn : ks.length ≤ 140737488355328) : Pc (Cf G) 156 [.psl (strs ks) ks.length] (.sc (.bool (rises ks))) := by
  refine Pc_of (Gf_enter (C := Cf G) Tryz.func156 rfl ok156 (Nat.le_of_ble_eq_true rfl) ?_)
  simp only [Tryz.f156, Option.getD_some]
  refine wB1 trivial ?_
  refine Gc_loop_inv (fun m s => ∃ d r, ks = d ++ r ∧ m = r.length ∧ s.T 0 = .psl (strs ks) ks.length ∧ s.T 5 = .sc (.int .i64 ks.length) ∧ s.T 6 = .sc (.int .i64 d.length) ∧ riseFrom d r = rises ks) ?_ ks.length _ ⟨[], ks, rfl, rfl, ?_⟩
  · rintro m ⟨T, h, n⟩ ⟨d, r, hl, rfl, h0, h5, h6, hs⟩
    simp only at h0 h5 h6
    have hdl : d.length ≤ ks.length := by rw [hl]; simp
    cases r with
    | nil =>
      have hge : ¬ (d.length : Int) < (ks.length : Int) := by rw [hl]; simp
      refine wB1 (wa h0 (wa h5 (wa h6 hge))) ?_
      simp only [one1, frz_sc, Option.map_some, ← hs, riseFrom]
      cases d.getLast? <;> rfl
    | cons k r =>
      have hlt : (d.length : Int) < (ks.length : Int) := by rw [hl]; simp; omega
      have hltn : d.length < ks.length := by omega
      have hk := strs_at hl
      rcases List.eq_nil_or_concat d with rfl | ⟨d, p, rfl⟩
      · simp only [List.length_nil, Int.natCast_zero] at h6 hlt hk
        refine wB1 (wa h0 (wa h5 (wa h6 hlt))) ?_
        refine ⟨r.length, by simp, [k], r, by simpa using hl, rfl, ?_, ?_, ?_, ?_⟩
        · simp [upd_ap, tAt, h0]
        · simp [upd_ap, tAt, h5]
        · simp [upd_ap, tAt]
          rw [i64 (by omega) (by omega)]
        · rw [← hs]
          rfl
      · have hp : (strs ks)[d.length * 1]? = some (.sc (.string p)) := strs_at (r := k :: r) (by rw [hl]; simp)
        have hlen : (d.concat p).length = d.length + 1 := by simp
        rw [hlen] at h6 hlt hltn hk
        have hsub : IntKind.i64.wrap (((d.length + 1 : Nat) : Int) - 1) = (d.length : Int) := by rw [i64 (by omega) (by omega)]; omega
        have hpos : (0 : Int) < ((d.length + 1 : Nat) : Int) := by omega
        have hltp : d.length < ks.length := by omega
        (focus refine wB2 (wa h0 (wa h5 (wa h6 (wa hlt (wa hltn (wa hltp (wa hk (wa hp (wa hsub hpos))))))))) ?_ ?_; intro hb; rotate_left; intro hb; rotate_left)
        · rw [← hs, riseFrom_concat, riseAt, show sle k p = true from hb]
          rfl
        · have hb' : sle k p = false := hb
          refine ⟨r.length, by simp, (d.concat p).concat k, r, by rw [hl]; simp, rfl, ?_, ?_, ?_, ?_⟩
          · simp [upd_ap, tAt, h0]
          · simp [upd_ap, tAt, h5]
          · simp [upd_ap, tAt]
            rw [i64 (by omega) (by omega)]
            omega
          · rw [← hs, riseFrom_concat, riseFrom_concat, riseAt, hb', Bool.not_false, Bool.true_and]
  · simp [upd_ap, argsT, riseFrom]
end Go.Proofs.Bv
namespace Go.Proofs.Bv
open Go
theorem ok242 : codeOk 6 (Tryz.f242.body.getD .skip) = true := by kernel_rfl
theorem pc242 (G : Nat → Option (List AV)) (s : ByteArray) : Pc (Cf G) 242 [.sc (.string s)] (.sc (.bool false)) := by
  have h : (s.toList == s.toList) = true := by simp
  refine Pc_of (Gf_enter (C := Cf G) Tryz.func242 rfl ok242 (Nat.le_of_ble_eq_true rfl) ?_)
  simp only [Tryz.f242, Option.getD_some]
  refine wB1 h ?_
  simp only [one1, frz_s, Option.map_some]
theorem bl_irr : (x : List UInt8) → Op.bytesLess x x = false
  | [] => rfl
  | a :: x => by simp [Op.bytesLess, bl_irr x, UInt8.lt_irrefl]
theorem bl_trans : (x y z : List UInt8) → Op.bytesLess x y = true → Op.bytesLess y z = true → Op.bytesLess x z = true
  | _, _, [], _, h => by simp [Op.bytesLess] at h
  | [], _, _ :: _, _, _ => rfl
  | _ :: _, [], _ :: _, h, _ => by simp [Op.bytesLess] at h
  | a :: x, b :: y, c :: z, h1, h2 => by
    simp only [Op.bytesLess, Bool.or_eq_true, Bool.and_eq_true, decide_eq_true_eq, beq_iff_eq] at h1 h2 ⊢
    rcases h1 with h1 | ⟨rfl, h1⟩
    · rcases h2 with h2 | ⟨rfl, _⟩
      · exact .inl (UInt8.lt_trans h1 h2)
      · exact .inl h1
    · rcases h2 with h2 | ⟨rfl, h2⟩
      · exact .inl h2
      · exact .inr ⟨rfl, bl_trans x y z h1 h2⟩
theorem bl_total : (x y : List UInt8) → Op.bytesLess x y = true ∨ x = y ∨ Op.bytesLess y x = true
  | [], [] => .inr (.inl rfl)
  | [], _ :: _ => .inl rfl
  | _ :: _, [] => .inr (.inr rfl)
  | a :: x, b :: y => by
    simp only [Op.bytesLess, Bool.or_eq_true, Bool.and_eq_true, decide_eq_true_eq, beq_iff_eq, List.cons.injEq]
    have ih := bl_total x y
    rcases Nat.lt_trichotomy a.toNat b.toNat with h | h | h
    · exact .inl (.inl h)
    · have e : a = b := UInt8.toNat_inj.1 h
      subst e
      rcases ih with ih | ih | ih
      · exact .inl (.inr ⟨rfl, ih⟩)
      · exact .inr (.inl ⟨rfl, ih⟩)
      · exact .inr (.inr (.inr ⟨rfl, ih⟩))
    · exact .inr (.inr (.inl h))
def bl (a b : ByteArray) : Prop := Op.bytesLess a.toList b.toList = true
theorem sle_not {k p : ByteArray} (h : sle k p = false) : bl p k := by
  unfold sle at h
  rw [Bool.or_eq_false_iff] at h
  rcases bl_total p.toList k.toList with e | e | e
  · exact e
  · rw [e] at h; simp at h
  · rw [h.1] at e; cases e
theorem riseAt_all : (p : ByteArray) → (r : List ByteArray) → riseAt p r = true → (∀ k ∈ r, bl p k) ∧ r.Pairwise bl
  | p, [], _ => ⟨by simp, .nil⟩
  | p, k :: r, h => by
    simp only [riseAt, Bool.and_eq_true, Bool.not_eq_true'] at h
    have hk := sle_not h.1
    obtain ⟨h1, h2⟩ := riseAt_all k r h.2
    refine ⟨fun z hz => ?_, .cons h1 h2⟩
    rcases List.mem_cons.1 hz with rfl | hz
    · exact hk
    · exact bl_trans _ _ _ hk (h1 z hz)
theorem rises_pw {l : List ByteArray} (h : rises l = true) : l.Pairwise bl := by
  cases l with
  | nil => exact .nil
  | cons p r =>
    obtain ⟨h1, h2⟩ := riseAt_all p r h
    exact .cons h1 h2
theorem tl_inj {s t : ByteArray} : ((s.toList == t.toList) = true) ↔ s = t := by
  rw [ByteArray.toList_eq, ByteArray.toList_eq, beq_iff_eq]
  constructor
  · intro h
    apply ByteArray.ext
    exact Array.toList_inj.1 h
  · rintro rfl; rfl
end Go.Proofs.Bv
namespace Go.Proofs.Bv
open Go
theorem ok201 : codeOk 17 (Tryz.f201.body.getD .skip) = true := by kernel_rfl
theorem ok138 : codeOk 54 (Tryz.f138.body.getD .skip) = true := by kernel_rfl
theorem ev_shr1 {P : Program} {t : TypeId} {xo yo : Operand} {yk : IntKind} {a : Int} : vbin P .shr t xo yo (.sc (.int .u64 a)) (.sc (.int yk 1)) = some (.sc (.int .u64 (a / 2))) := by
  rw [ev_shr (by omega)]
  have : ((2 : Int) ^ (min (1 : Int).toNat IntKind.u64.bits)) = 2 := by decide
  rw [this, Int.fdiv_eq_ediv_of_nonneg _ (by omega)]
attribute [go_sem] ev_shr1
theorem pc201 (G : Nat → Option (List AV)) (x y : ByteArray) : Pc (Cf G) 201 [.sc (.string x), .sc (.string y)] (.sc (.bool (Op.bytesLess x.toList y.toList))) := by
  have h1 := pc242 G x
  refine Pc_of (Gf_enter (C := Cf G) Tryz.func201 rfl ok201 (Nat.le_of_ble_eq_true rfl) ?_)
  simp only [Tryz.f201, Option.getD_some]
  refine wC1 trivial (wa h1 trivial) ?_
  simp only [one1, frz_s, Option.map_some]
set_option maxHeartbeats 4000000 in
set_option maxRecDepth 100000 in
theorem pc138 (G : Nat → Option (List AV)) (ks : List ByteArray) (s : ByteArray) (hk : ∀ k ∈ ks, bl k s) (hn : ks.length ≤ 140737488355328) : Pc (Cf G) 138 [.psl (strs ks) ks.length, .sc (.string s)] (.tup [.sc (.int .i64 ks.length), .sc (.bool false)]) := by
  refine Pc_of (Gf_enter (C := Cf G) Tryz.func138 rfl ok138 (Nat.le_of_ble_eq_true rfl) ?_)
  simp only [Tryz.f138, Option.getD_some]
  refine wB1 trivial ?_
  refine Gc_loop_inv (fun m st => ∃ i : Nat, i + m = ks.length ∧ st.T 0 = .psl (strs ks) ks.length ∧ st.T 1 = .sc (.string s) ∧ st.T 4 = .sc (.int .i64 0) ∧ st.T 6 = .sc (.int .i64 ks.length) ∧ st.T 7 = .sc (.int .i64 i) ∧ st.T 8 = .sc (.int .i64 ks.length)) ?_ ks.length _ ⟨0, Nat.zero_add _, rfl, rfl, rfl, rfl, rfl, rfl⟩
  rintro m ⟨T, h, n⟩ ⟨i, him, t0, t1, t4, t6, t7, t8⟩
  simp only at t0 t1 t4 t6 t7 t8
  cases m with
  | zero =>
    have e : i = ks.length := by omega
    subst e
    have hge : ¬ (ks.length : Int) < (ks.length : Int) := by omega
    refine wB1 (wa t0 (wa t1 (wa t4 (wa t6 (wa t7 (wa t8 hge)))))) ?_
    simp only [one1, frz_t, mapF, frz_s, Option.map_some, List.append_nil]
  | succ m =>
    have hlt : (i : Int) < (ks.length : Int) := by omega
    obtain ⟨q, hq⟩ : ∃ q, q = (i + ks.length) / 2 := ⟨_, rfl⟩
    have hq1 : q < ks.length := by omega
    obtain ⟨k, hkq⟩ : ∃ k, ks[q]? = some k := ⟨ks[q], List.getElem?_eq_getElem hq1⟩
    have hx : (strs ks)[q * 1]? = some (.sc (.string k)) := by simp [strs, hkq]
    have h201 := pc201 G k s
    rw [show Op.bytesLess k.toList s.toList = true from hk k (List.mem_of_getElem? hkq)] at h201
    have w0 : IntKind.i64.wrap ((i : Int) + (ks.length : Int)) = ((i + ks.length : Nat) : Int) := by rw [i64 (by omega) (by omega)]; omega
    have w1 : IntKind.u64.wrap ((i + ks.length : Nat) : Int) = ((i + ks.length : Nat) : Int) := IntWalk.u64_in _ ⟨by omega, by omega⟩
    have w2 : ((i + ks.length : Nat) : Int) / 2 = (q : Int) := by omega
    have w3 : IntKind.i64.wrap (q : Int) = q := i64 (by omega) (by omega)
    have w4 : IntKind.i64.wrap ((q : Int) + 1) = ((q + 1 : Nat) : Int) := by rw [i64 (by omega) (by omega)]; omega
    refine wC1 (wa t0 (wa t1 (wa t4 (wa t6 (wa t7 (wa t8 (wa hlt (wa hq1 (wa hx (wa w0 (wa w1 (wa w2 (wa w3 w4))))))))))))) (wa h201 trivial) ?_
    refine ⟨ks.length - (q + 1), by omega, q + 1, by omega, ?_, ?_, ?_, ?_, ?_, ?_⟩
    · simp only [vop, val, argsT, upd_ap, Nat.reduceEqDiff, if_true, if_false, ite_true, ite_false, reduceIte, loadAt, loadA, AV.cells, AV.one, List.all_cons, List.all_nil, ofV, ofCell, plain, List.getElem?_cons_zero, List.getElem?_cons_succ, List.getElem?_toArray, Option.getD_some, Bool.not_true, Bool.not_false, Bool.false_eq_true, Bool.and_true, Bool.true_and, Bool.and_self, Nat.zero_add, Option.map_some, Option.bind_some, List.map_cons, List.map_nil, ev_add, ev_sub, ev_mul, ev_lss, ev_leq, ev_gtr, ev_geq, ev_eql, ev_neq, ev_seql, ev_sneq, ev_sleq, ev_slss, ev_not, ev_min, ev_max, asNat_nat, asNat_zero, asNat_one, asNat_two, asNat_three, vb_len, List.length_cons, List.length_nil, Nat.reduceAdd, Nat.reduceLeDiff, Nat.reduceMul, Int.reduceEq, Int.reduceLT, Int.reduceLE, Int.reduceNeg, Int.reduceAdd, Int.reduceSub, Nat.reduceLT, decide_true, decide_false, not_true_eq_false, not_false_eq_true, and_self, and_true, true_and, storeA, List.take_zero, List.drop_succ_cons, List.drop_zero, List.nil_append, List.append_nil, List.take_succ_cons, List.cons_append, cut_cons, cut_zero, cut_skip, tAt, hHide, hAt, upsAt, List.contains_cons, List.contains_nil, Nat.reduceBEq, Bool.or_true, Bool.true_or, Bool.or_false, Bool.false_or, Bool.or_self, Bool.and_true, Bool.true_and, Bool.and_false, Bool.false_and, beq_self_eq_true (α := Nat), Option.some_beq_some, Option.none_beq_some, Option.some_beq_none, Bool.false_eq_true, List.all_nil, touch, touchB, Nat.sub_self, List.range'_zero, Nat.add_sub_cancel_left, List.range'_one, t0]
    · simp only [vop, val, argsT, upd_ap, Nat.reduceEqDiff, if_true, if_false, ite_true, ite_false, reduceIte, loadAt, loadA, AV.cells, AV.one, List.all_cons, List.all_nil, ofV, ofCell, plain, List.getElem?_cons_zero, List.getElem?_cons_succ, List.getElem?_toArray, Option.getD_some, Bool.not_true, Bool.not_false, Bool.false_eq_true, Bool.and_true, Bool.true_and, Bool.and_self, Nat.zero_add, Option.map_some, Option.bind_some, List.map_cons, List.map_nil, ev_add, ev_sub, ev_mul, ev_lss, ev_leq, ev_gtr, ev_geq, ev_eql, ev_neq, ev_seql, ev_sneq, ev_sleq, ev_slss, ev_not, ev_min, ev_max, asNat_nat, asNat_zero, asNat_one, asNat_two, asNat_three, vb_len, List.length_cons, List.length_nil, Nat.reduceAdd, Nat.reduceLeDiff, Nat.reduceMul, Int.reduceEq, Int.reduceLT, Int.reduceLE, Int.reduceNeg, Int.reduceAdd, Int.reduceSub, Nat.reduceLT, decide_true, decide_false, not_true_eq_false, not_false_eq_true, and_self, and_true, true_and, storeA, List.take_zero, List.drop_succ_cons, List.drop_zero, List.nil_append, List.append_nil, List.take_succ_cons, List.cons_append, cut_cons, cut_zero, cut_skip, tAt, hHide, hAt, upsAt, List.contains_cons, List.contains_nil, Nat.reduceBEq, Bool.or_true, Bool.true_or, Bool.or_false, Bool.false_or, Bool.or_self, Bool.and_true, Bool.true_and, Bool.and_false, Bool.false_and, beq_self_eq_true (α := Nat), Option.some_beq_some, Option.none_beq_some, Option.some_beq_none, Bool.false_eq_true, List.all_nil, touch, touchB, Nat.sub_self, List.range'_zero, Nat.add_sub_cancel_left, List.range'_one, t1]
    · simp only [vop, val, argsT, upd_ap, Nat.reduceEqDiff, if_true, if_false, ite_true, ite_false, reduceIte, loadAt, loadA, AV.cells, AV.one, List.all_cons, List.all_nil, ofV, ofCell, plain, List.getElem?_cons_zero, List.getElem?_cons_succ, List.getElem?_toArray, Option.getD_some, Bool.not_true, Bool.not_false, Bool.false_eq_true, Bool.and_true, Bool.true_and, Bool.and_self, Nat.zero_add, Option.map_some, Option.bind_some, List.map_cons, List.map_nil, ev_add, ev_sub, ev_mul, ev_lss, ev_leq, ev_gtr, ev_geq, ev_eql, ev_neq, ev_seql, ev_sneq, ev_sleq, ev_slss, ev_not, ev_min, ev_max, asNat_nat, asNat_zero, asNat_one, asNat_two, asNat_three, vb_len, List.length_cons, List.length_nil, Nat.reduceAdd, Nat.reduceLeDiff, Nat.reduceMul, Int.reduceEq, Int.reduceLT, Int.reduceLE, Int.reduceNeg, Int.reduceAdd, Int.reduceSub, Nat.reduceLT, decide_true, decide_false, not_true_eq_false, not_false_eq_true, and_self, and_true, true_and, storeA, List.take_zero, List.drop_succ_cons, List.drop_zero, List.nil_append, List.append_nil, List.take_succ_cons, List.cons_append, cut_cons, cut_zero, cut_skip, tAt, hHide, hAt, upsAt, List.contains_cons, List.contains_nil, Nat.reduceBEq, Bool.or_true, Bool.true_or, Bool.or_false, Bool.false_or, Bool.or_self, Bool.and_true, Bool.true_and, Bool.and_false, Bool.false_and, beq_self_eq_true (α := Nat), Option.some_beq_some, Option.none_beq_some, Option.some_beq_none, Bool.false_eq_true, List.all_nil, touch, touchB, Nat.sub_self, List.range'_zero, Nat.add_sub_cancel_left, List.range'_one, t4]
    · simp only [vop, val, argsT, upd_ap, Nat.reduceEqDiff, if_true, if_false, ite_true, ite_false, reduceIte, loadAt, loadA, AV.cells, AV.one, List.all_cons, List.all_nil, ofV, ofCell, plain, List.getElem?_cons_zero, List.getElem?_cons_succ, List.getElem?_toArray, Option.getD_some, Bool.not_true, Bool.not_false, Bool.false_eq_true, Bool.and_true, Bool.true_and, Bool.and_self, Nat.zero_add, Option.map_some, Option.bind_some, List.map_cons, List.map_nil, ev_add, ev_sub, ev_mul, ev_lss, ev_leq, ev_gtr, ev_geq, ev_eql, ev_neq, ev_seql, ev_sneq, ev_sleq, ev_slss, ev_not, ev_min, ev_max, asNat_nat, asNat_zero, asNat_one, asNat_two, asNat_three, vb_len, List.length_cons, List.length_nil, Nat.reduceAdd, Nat.reduceLeDiff, Nat.reduceMul, Int.reduceEq, Int.reduceLT, Int.reduceLE, Int.reduceNeg, Int.reduceAdd, Int.reduceSub, Nat.reduceLT, decide_true, decide_false, not_true_eq_false, not_false_eq_true, and_self, and_true, true_and, storeA, List.take_zero, List.drop_succ_cons, List.drop_zero, List.nil_append, List.append_nil, List.take_succ_cons, List.cons_append, cut_cons, cut_zero, cut_skip, tAt, hHide, hAt, upsAt, List.contains_cons, List.contains_nil, Nat.reduceBEq, Bool.or_true, Bool.true_or, Bool.or_false, Bool.false_or, Bool.or_self, Bool.and_true, Bool.true_and, Bool.and_false, Bool.false_and, beq_self_eq_true (α := Nat), Option.some_beq_some, Option.none_beq_some, Option.some_beq_none, Bool.false_eq_true, List.all_nil, touch, touchB, Nat.sub_self, List.range'_zero, Nat.add_sub_cancel_left, List.range'_one, t6]
    · simp only [vop, val, argsT, upd_ap, Nat.reduceEqDiff, if_true, if_false, ite_true, ite_false, reduceIte, loadAt, loadA, AV.cells, AV.one, List.all_cons, List.all_nil, ofV, ofCell, plain, List.getElem?_cons_zero, List.getElem?_cons_succ, List.getElem?_toArray, Option.getD_some, Bool.not_true, Bool.not_false, Bool.false_eq_true, Bool.and_true, Bool.true_and, Bool.and_self, Nat.zero_add, Option.map_some, Option.bind_some, List.map_cons, List.map_nil, ev_add, ev_sub, ev_mul, ev_lss, ev_leq, ev_gtr, ev_geq, ev_eql, ev_neq, ev_seql, ev_sneq, ev_sleq, ev_slss, ev_not, ev_min, ev_max, asNat_nat, asNat_zero, asNat_one, asNat_two, asNat_three, vb_len, List.length_cons, List.length_nil, Nat.reduceAdd, Nat.reduceLeDiff, Nat.reduceMul, Int.reduceEq, Int.reduceLT, Int.reduceLE, Int.reduceNeg, Int.reduceAdd, Int.reduceSub, Nat.reduceLT, decide_true, decide_false, not_true_eq_false, not_false_eq_true, and_self, and_true, true_and, storeA, List.take_zero, List.drop_succ_cons, List.drop_zero, List.nil_append, List.append_nil, List.take_succ_cons, List.cons_append, cut_cons, cut_zero, cut_skip, tAt, hHide, hAt, upsAt, List.contains_cons, List.contains_nil, Nat.reduceBEq, Bool.or_true, Bool.true_or, Bool.or_false, Bool.false_or, Bool.or_self, Bool.and_true, Bool.true_and, Bool.and_false, Bool.false_and, beq_self_eq_true (α := Nat), Option.some_beq_some, Option.none_beq_some, Option.some_beq_none, Bool.false_eq_true, List.all_nil, touch, touchB, Nat.sub_self, List.range'_zero, Nat.add_sub_cancel_left, List.range'_one]
    · simp only [vop, val, argsT, upd_ap, Nat.reduceEqDiff, if_true, if_false, ite_true, ite_false, reduceIte, loadAt, loadA, AV.cells, AV.one, List.all_cons, List.all_nil, ofV, ofCell, plain, List.getElem?_cons_zero, List.getElem?_cons_succ, List.getElem?_toArray, Option.getD_some, Bool.not_true, Bool.not_false, Bool.false_eq_true, Bool.and_true, Bool.true_and, Bool.and_self, Nat.zero_add, Option.map_some, Option.bind_some, List.map_cons, List.map_nil, ev_add, ev_sub, ev_mul, ev_lss, ev_leq, ev_gtr, ev_geq, ev_eql, ev_neq, ev_seql, ev_sneq, ev_sleq, ev_slss, ev_not, ev_min, ev_max, asNat_nat, asNat_zero, asNat_one, asNat_two, asNat_three, vb_len, List.length_cons, List.length_nil, Nat.reduceAdd, Nat.reduceLeDiff, Nat.reduceMul, Int.reduceEq, Int.reduceLT, Int.reduceLE, Int.reduceNeg, Int.reduceAdd, Int.reduceSub, Nat.reduceLT, decide_true, decide_false, not_true_eq_false, not_false_eq_true, and_self, and_true, true_and, storeA, List.take_zero, List.drop_succ_cons, List.drop_zero, List.nil_append, List.append_nil, List.take_succ_cons, List.cons_append, cut_cons, cut_zero, cut_skip, tAt, hHide, hAt, upsAt, List.contains_cons, List.contains_nil, Nat.reduceBEq, Bool.or_true, Bool.true_or, Bool.or_false, Bool.false_or, Bool.or_self, Bool.and_true, Bool.true_and, Bool.and_false, Bool.false_and, beq_self_eq_true (α := Nat), Option.some_beq_some, Option.none_beq_some, Option.some_beq_none, Bool.false_eq_true, List.all_nil, touch, touchB, Nat.sub_self, List.range'_zero, Nat.add_sub_cancel_left, List.range'_one, t8]
end Go.Proofs.Bv
namespace Go.Proofs.Bv
open Go
def noText (t : ByteArray) : Bool := t.toList == (ByteArray.mk #[]).toList
def used : JV → Bool
  | .mk k _ _ _ t l ks => (decide (k = 4) || noText t) && (decide (5 ≤ k) || decide ((l.length : Int) = 0)) && decide ((ks.length : Int) = if k = 6 then (l.length : Int) else 0)
theorem ok155 : codeOk 36 (Tryz.f155.body.getD .skip) = true := by kernel_rfl
set_option maxHeartbeats 4000000 in
theorem pc155 (G : Nat → Option (List AV)) : (v : JV) → Fit v → Pc (Cf G) 155 [.agg (enc v)] (.sc (.bool (used v)))
  | .mk k ng cf ex t l ks => fun hfit => by
    refine Pc_of (Gf_enter (C := Cf G) Tryz.func155 rfl ok155 (Nat.le_of_ble_eq_true rfl) ?_)
    simp only [Tryz.f155, Option.getD_some]
    by_cases e6 : k = 6
    · subst e6
      cases et : (t.toList == (ByteArray.mk #[]).toList)
      all_goals
        refine wB1 et ?_
        simp only [one1, frz_sc, Option.map_some, used, noText, et]
        simp
    · by_cases e4 : k = 4
      · subst e4
        cases el : decide ((l.length : Int) = 0)
        all_goals
          refine wB1 el ?_
          simp only [one1, frz_sc, Option.map_some, used, noText, el]
          simp
      · by_cases e5 : 5 ≤ k
        · cases et : (t.toList == (ByteArray.mk #[]).toList)
          all_goals
            refine wB1 (wa et (wa e6 (wa e4 e5))) ?_
            simp only [one1, frz_sc, Option.map_some, used, noText, et, e6, e4, e5]
            simp
        · cases et : (t.toList == (ByteArray.mk #[]).toList)
          all_goals
            cases el : decide ((l.length : Int) = 0)
            all_goals
              refine wB1 (wa et (wa el (wa e6 (wa e4 e5)))) ?_
              simp only [one1, frz_sc, Option.map_some, used, noText, et, el, e6, e4, e5]
              simp
theorem ok93 : codeOk 5 (Tryz.f93.body.getD .skip) = true := by kernel_rfl
theorem pc93 (G : Nat → Option (List AV)) : (v : JV) → Fit v → Pc (Cf G) 93 [.agg (enc v)] (.sc (.int .i64 (deep v 1000)))
  | .mk k ng cf ex t l ks => fun hfit => by
    have hc := pc150 G (.mk k ng cf ex t l ks) 1000 hfit (by omega) (by omega)
    simp only [enc] at hc
    refine Pc_of (Gf_enter (C := Cf G) Tryz.func93 rfl ok93 (Nat.le_of_ble_eq_true rfl) ?_)
    simp only [Tryz.f93, Option.getD_some]
    refine wC1 trivial (wa hc trivial) ?_
    simp only [one1, frz_sc, Option.map_some]
end Go.Proofs.Bv
namespace Go.Proofs.Bv
open Go
def or2 (a b : Int) : Int := if a = 0 then b else a
theorem ok97 : codeOk 18 (Tryz.f97.body.getD .skip) = true := by kernel_rfl
set_option maxHeartbeats 1000000 in
theorem pc97 (G : Nat → Option (List AV)) (a b : Int) : Pc (Cf G) 97 [.psl [.sc (.int .i64 a), .sc (.int .i64 b)] 2] (.sc (.int .i64 (or2 a b))) := by
  have w1 : IntKind.i64.wrap 1 = 1 := i64 (by omega) (by omega)
  have w2 : IntKind.i64.wrap 2 = 2 := i64 (by omega) (by omega)
  have n1 : ∀ k, asNat (.sc (.int k 1)) = some 1 := fun k => rfl
  refine Pc_of (Gf_enter (C := Cf G) Tryz.func97 rfl ok97 (Nat.le_of_ble_eq_true rfl) ?_)
  simp only [Tryz.f97, Option.getD_some]
  by_cases ha : a = 0
  · by_cases hbz : b = 0
    · refine wB1 (wa ha (wa hbz (wa w1 (wa w2 (wa n1 (wa @Int.cast_ofNat_Int @Int.toNat_one)))))) ?_
      refine st_loop ?_
      refine wB1 (wa ha (wa hbz (wa w1 (wa w2 (wa n1 (wa @Int.cast_ofNat_Int @Int.toNat_one)))))) ?_
      refine st_loop ?_
      refine wB1 (wa ha (wa hbz (wa w1 (wa w2 (wa n1 (wa @Int.cast_ofNat_Int @Int.toNat_one)))))) ?_
      refine st_loop ?_
      refine wB1 (wa ha (wa hbz (wa w1 (wa w2 (wa n1 (wa @Int.cast_ofNat_Int @Int.toNat_one)))))) ?_
      all_goals simp only [one1, frz_sc, Option.map_some, or2, ha, hbz, if_true]
    · refine wB1 (wa ha (wa hbz (wa w1 (wa w2 (wa n1 (wa @Int.cast_ofNat_Int @Int.toNat_one)))))) ?_
      refine st_loop ?_
      refine wB1 (wa ha (wa hbz (wa w1 (wa w2 (wa n1 (wa @Int.cast_ofNat_Int @Int.toNat_one)))))) ?_
      refine st_loop ?_
      refine wB1 (wa ha (wa hbz (wa w1 (wa w2 (wa n1 (wa @Int.cast_ofNat_Int @Int.toNat_one)))))) ?_
      all_goals simp only [one1, frz_sc, Option.map_some, or2, ha, if_true]
  · refine wB1 (wa ha (wa w1 (wa w2 (wa n1 (wa @Int.cast_ofNat_Int @Int.toNat_one))))) ?_
    refine st_loop ?_
    refine wB1 (wa ha (wa w1 (wa w2 (wa n1 (wa @Int.cast_ofNat_Int @Int.toNat_one))))) ?_
    all_goals simp only [one1, frz_sc, Option.map_some, or2, ha, if_false]
end Go.Proofs.Bv
namespace Go.Proofs.Bv
open Go
def cmpI (a b : Int) : Int := if a < b then -1 else if b < a then 1 else 0
theorem ok241 : codeOk 6 (Tryz.f241.body.getD .skip) = true := by kernel_rfl
theorem ok190 : codeOk 20 (Tryz.f190.body.getD .skip) = true := by kernel_rfl
theorem ok368 : codeOk 6 (Tryz.f368.body.getD .skip) = true := by kernel_rfl
theorem ok354 : codeOk 20 (Tryz.f354.body.getD .skip) = true := by kernel_rfl
theorem ok160 : codeOk 20 (Tryz.f160.body.getD .skip) = true := by kernel_rfl
theorem ok183 : codeOk 24 (Tryz.f183.body.getD .skip) = true := by kernel_rfl
theorem ok159 : codeOk 10 (Tryz.f159.body.getD .skip) = true := by kernel_rfl
theorem ok279 : codeOk 11 (Tryz.f279.body.getD .skip) = true := by kernel_rfl
theorem pc241 (G : Nat → Option (List AV)) (a : Int) : Pc (Cf G) 241 [.sc (.int .i64 a)] (.sc (.bool false)) := by
  refine Pc_of (Gf_enter (C := Cf G) Tryz.func241 rfl ok241 (Nat.le_of_ble_eq_true rfl) ?_)
  simp only [Tryz.f241, Option.getD_some]
  refine wB1 trivial ?_
  simp [one1, frz_sc]
theorem pc368 (G : Nat → Option (List AV)) (a : Int) : Pc (Cf G) 368 [.sc (.int .u32 a)] (.sc (.bool false)) := by
  refine Pc_of (Gf_enter (C := Cf G) Tryz.func368 rfl ok368 (Nat.le_of_ble_eq_true rfl) ?_)
  simp only [Tryz.f368, Option.getD_some]
  refine wB1 trivial ?_
  simp [one1, frz_sc]
theorem pc190 (G : Nat → Option (List AV)) (a b : Int) : Pc (Cf G) 190 [.sc (.int .i64 a), .sc (.int .i64 b)] (.sc (.int .i64 (cmpI a b))) := by
  refine Pc_of (Gf_enter (C := Cf G) Tryz.func190 rfl ok190 (Nat.le_of_ble_eq_true rfl) ?_)
  simp only [Tryz.f190, Option.getD_some]
  (focus refine wC3 trivial (wa (pc241 G a) (wa (pc241 G b) trivial)) ?_ ?_ ?_; intro hb; rotate_left; intro hb hb; rotate_left; intro hb hb; rotate_left)
  all_goals first | (simp [one1, frz_sc, cmpI]; done) | (simp [one1, frz_sc, cmpI]; omega)
theorem pc354 (G : Nat → Option (List AV)) (a b : Int) : Pc (Cf G) 354 [.sc (.int .u32 a), .sc (.int .u32 b)] (.sc (.int .i64 (cmpI a b))) := by
  refine Pc_of (Gf_enter (C := Cf G) Tryz.func354 rfl ok354 (Nat.le_of_ble_eq_true rfl) ?_)
  simp only [Tryz.f354, Option.getD_some]
  (focus refine wC3 trivial (wa (pc368 G a) (wa (pc368 G b) trivial)) ?_ ?_ ?_; intro hb; rotate_left; intro hb hb; rotate_left; intro hb hb; rotate_left)
  all_goals first | (simp [one1, frz_sc, cmpI]; done) | (simp [one1, frz_sc, cmpI]; omega)
def natChk (l : List Int) : Int := if 256 < (l.length : Int) then 5 else if l.getLast? = some 0 then 9 else 0
theorem u32s_snoc (d : List Int) (x : Int) : (u32s (d ++ [x]))[d.length * 1]? = some (.sc (.int .u32 x)) := by simp [u32s]
theorem len1 {d : List Int} {x : Int} (h : d.length ≤ 140737488355328) : IntKind.i64.wrap (((d ++ [x]).length : Int) - 1) = (d.length : Int) := by
  rw [i64 (by simp only [List.length_append, List.length_cons, List.length_nil]; omega) (by simp only [List.length_append, List.length_cons, List.length_nil]; omega)]
  simp
theorem pc160 (G : Nat → Option (List AV)) (l : List Int) (hl : l.length ≤ 140737488355328) : Pc (Cf G) 160 [.psl (u32s l) l.length] (.sc (.int .i64 (natChk l))) := by
  refine Pc_of (Gf_enter (C := Cf G) Tryz.func160 rfl ok160 (Nat.le_of_ble_eq_true rfl) ?_)
  simp only [Tryz.f160, Option.getD_some]
  rcases List.eq_nil_or_concat l with rfl | ⟨d, x, rfl⟩
  · refine wB1 (@u32s.eq_1) ?_
    all_goals simp_all [one1, frz_sc, natChk]
  · rw [List.concat_eq_append] at hl ⊢
    have h1 := len1 (d := d) (x := x) (by simp at hl; omega)
    have h2 := u32s_snoc d x
    have h3 : d.length < (d ++ [x]).length := by simp
    (focus refine wB4 (wa h1 (wa h2 h3)) ?_ ?_ ?_ ?_; intro hb; rotate_left; intro hb hb hb; rotate_left; intro hb hb hb; rotate_left; intro hb hb; rotate_left)
    all_goals clear h1 h2 h3
    all_goals simp_all [one1, frz_sc, natChk]
    all_goals omega
theorem trim_take (l : List Int) (k : Nat) (hk : k < l.length) (h0 : l[k]? = some 0) : trimL (l.take (k + 1)) = trimL (l.take k) := by
  rw [List.take_add_one, h0]
  exact trimL_snoc_zero _
theorem trim_stop (l : List Int) (k : Nat) {x : Int} (h0 : l[k]? = some x) (hx : x ≠ 0) : trimL (l.take (k + 1)) = l.take (k + 1) := by
  rw [List.take_add_one, h0]
  exact trimL_snoc hx _
theorem u32s_cut (l : List Int) (k : Nat) : cut (u32s l) 0 (k * 1) = u32s (l.take k) := by simp [cut, u32s, List.map_take]
theorem u32s_at {l : List Int} {k : Nat} {x : Int} (h : l[k]? = some x) : (u32s l)[k * 1]? = some (.sc (.int .u32 x)) := by simp [u32s, h]
theorem bnds_hi {len k : Nat} (hk : k ≤ len) : bnds len none (some (.sc (.int .i64 (k : Int)))) = some (0, k) := by
  simp [bnds, asNat, hk]
theorem cut_0 (l : List AV) (k : Nat) : cut l (0 * 1) k = cut l 0 k := by simp
theorem pc183 (G : Nat → Option (List AV)) (l : List Int) (hl : l.length ≤ 140737488355328) : Pc (Cf G) 183 [.psl (u32s l) l.length] (.psl (u32s (trimL l)) (trimL l).length) := by
  refine Pc_of (Gf_enter (C := Cf G) Tryz.func183 rfl ok183 (Nat.le_of_ble_eq_true rfl) ?_)
  simp only [Tryz.f183, Option.getD_some]
  refine wB1 trivial ?_
  refine Gc_loop_inv (fun m st => ∃ k, k ≤ l.length ∧ m = k ∧ st.T 0 = .psl (u32s (l.take k)) k ∧ trimL (l.take k) = trimL l) ?_ l.length _ ⟨l.length, Nat.le_refl _, rfl, ?_⟩
  · rintro m ⟨T, h, n⟩ ⟨k, hk, rfl, h0, ht⟩
    simp only at h0
    have hlen : (l.take m).length = m := by simp; omega
    cases m with
    | zero =>
      have hz : trimL l = [] := by rw [← ht]; rfl
      refine wB1 h0 ?_
      simp only [one1, frz_n, Option.map_some, hz]
      rfl
    | succ k =>
      have hpos : (0 : Int) < ((k + 1 : Nat) : Int) := by omega
      have hne : ¬ ((k + 1 : Nat) : Int) = 0 := by omega
      have hsub : IntKind.i64.wrap (((k + 1 : Nat) : Int) - 1) = (k : Int) := by rw [i64 (by omega) (by omega)]; omega
      have hlt : k < k + 1 := by omega
      have hbd : bnds (k + 1) none (some (.sc (.int .i64 (k : Int)))) = some (0, k) := bnds_hi (by omega)
      obtain ⟨x, hx⟩ : ∃ x, l[k]? = some x := ⟨l[k]'(by omega), List.getElem?_eq_getElem (by omega)⟩
      have hx' : (u32s (l.take (k + 1)))[k * 1]? = some (.sc (.int .u32 x)) := u32s_at (by rw [List.getElem?_take, if_pos (by omega), hx])
      have hcut : cut (u32s (l.take (k + 1))) (0 * 1) ((k - 0) * 1) = u32s (l.take k) := by
        rw [cut_0, Nat.sub_zero, u32s_cut, List.take_take, Nat.min_eq_left (by omega)]
      by_cases hx0 : x = 0
      · subst hx0
        refine wB1 (wa h0 (wa hpos (wa hsub (wa hlt (wa hbd (wa hx' hcut)))))) ?_
        refine ⟨k, by omega, k, by omega, rfl, ?_, ?_⟩
        · simp [upd_ap]
        · rw [← ht, trim_take l k (by omega) hx]
      · refine wB1 (wa h0 (wa hpos (wa hsub (wa hlt (wa hbd (wa hx' (wa hx0 hne))))))) ?_
        have e : trimL l = l.take (k + 1) := by rw [← ht, trim_stop l k hx hx0]
        simp only [one1, frz_l, Option.map_some, e, List.length_take]
        rw [Nat.min_eq_left (by omega)]
  · simp [upd_ap, argsT]
end Go.Proofs.Bv
