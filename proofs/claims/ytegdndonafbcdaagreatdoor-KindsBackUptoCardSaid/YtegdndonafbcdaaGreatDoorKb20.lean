/-
  A part of the proof of KindsBackUptoCardSaid: BkAbs, BkGet, BkRng, BkWith, BkWithE.
  Conditions: those that each part names.
-/
import Derived.Test.YtegdndonafbcdaaGreatDoorKb19
set_option linter.unusedSimpArgs false
set_option linter.unusedVariables false
namespace Go.Proofs.Bv
open Go
theorem ok17 : codeOk 46 (Tryz.f17.body.getD .skip) = true := by kernel_rfl
theorem dec_lim {ng : Bool} {cf : List Int} {ex : Int} (h : decChk ng cf ex = 0) (ha : Limbs cf) : ∃ n : Nat, cf = lim n ∧ (lim n).length ≤ 256 ∧ (digs n).length ≤ 2400 ∧ -4000 ≤ ex ∧ ex ≤ 4000 := by
  unfold decChk at h
  split at h
  · simp at h
  · rename_i h1
    have hc : natChk cf = 0 := by
      rcases Classical.em (natChk cf = 0) with q | q
      · exact q
      · exact absurd (Or.inl q) h1
    have h40 : ¬ 40 < (cf.length : Int) := fun q => h1 (Or.inr q)
    obtain ⟨ht, hl⟩ := TopOk_of_chk hc
    have hn := nv_nonneg ha
    have he : cf = lim (nv cf).toNat := canon_lim ⟨ha, ht⟩ (by omega)
    refine ⟨(nv cf).toNat, he, by rw [← he]; omega, ?_⟩
    split at h
    · rename_i h0
      have : cf = [] := by cases cf with
        | nil => rfl
        | cons x r => simp at h0; omega
      subst this
      split at h
      · simp at h
      · rename_i h2
        have : ex = 0 := by
          rcases Classical.em (ex = 0) with q | q
          · exact q
          · exact absurd (Or.inr q) h2
        subst this
        simp [nv, digs]
    · split at h
      · simp at h
      · rename_i h2
        unfold nDig at h2
        omega
set_option maxHeartbeats 4000000 in
set_option maxRecDepth 100000 in
theorem pc52 (G : Nat → Option (List AV)) (ng : Bool) (cf : List Int) (ex : Int) (h : decChk ng cf ex = 0) (ha : Limbs cf) :
    Pc (Cf G) 52 [.agg [.sc (.bool ng), .psl (u32s cf) cf.length, .sc (.int .i64 ex)]] (encR (settleD false (nv cf).toNat ex)) := by
  obtain ⟨n, he, hl, hd, hx⟩ := dec_lim h ha
  have h1 := pc102 G ng cf ex (by rw [he]; omega) ha
  rw [h] at h1
  have hn : (nv cf).toNat = n := by rw [he, nv_lim]; rfl
  rw [hn]
  have h2 := pc103 G false n ex hl hd hx
  rw [← he] at h2
  unfold encR encD at h2 ⊢
  generalize settleD false n ex = r at *
  refine Pc_of (Gf_enter (C := Cf G) Tryz.func52 rfl ok52 (Nat.le_of_ble_eq_true rfl) ?_)
  simp only [Tryz.f52, Option.getD_some]
  refine wC1 trivial (wa h1 (wa h2 trivial)) ?_
  simp only [one1, frz_t, frz_a, mapF, frz_s, frz_l, Option.map_some, List.append_nil]
def nullV : JV := .mk 0 false [] 0 ⟨#[]⟩ [] []
def withE (v : JV) (e : Int) : AV := .tup [.agg (enc v), .sc (.int .i64 e)]
def lenR (v : JV) : AV :=
  if ¬ chk v = 0 then withE nullV (chk v)
  else if v.kind = 1 ∨ v.kind = 2 then withE nullV 41
  else if v.kind = 3 then withE (.mk 3 (settleD false (nv v.coef).toNat v.exp).1.1 (lim (settleD false (nv v.coef).toNat v.exp).1.2.1) (settleD false (nv v.coef).toNat v.exp).1.2.2 ⟨#[]⟩ [] []) (settleD false (nv v.coef).toNat v.exp).2
  else if v.kind = 4 then withE (numV (cntS v.text)) 0
  else withE (numV v.list.length) 0
set_option maxHeartbeats 4000000 in
set_option maxRecDepth 100000 in
theorem pc17 (G : Nat → Option (List AV)) : (v : JV) → Fit v → (chk v = 0 → v.text.size * 8 ≤ 140737488355328) → (chk v = 0 → v.kind = 3 → decChk v.neg v.coef v.exp = 0) → Pc (Cf G) 17 [.agg (enc v)] (lenR v)
  | .mk k ng cf ex t l ks => fun hfit ht hd => by
    have h1 := pc44 G (.mk k ng cf ex t l ks) hfit
    have h2 : chk (.mk k ng cf ex t l ks) = 0 → k = 3 → _ := fun a b => pc52 G ng cf ex (hd a b) (fun c hc => hfit.1.coef c hc)
    have h3 := fun a => pc53 G t (ht a)
    have h4 := pc51 G (cntS t) (by have := cnt_le t; have := hfit.1.ntext; omega)
    have h5 := pc51 G l.length (by have := hfit.1.nlist; omega)
    simp only [lenR, withE, nullV, JV.kind, JV.coef, JV.exp, JV.text, JV.list]
    simp only [numV, enc] at h1 h4 h5 ⊢
    generalize chk (.mk k ng cf ex t l ks) = c at *
    by_cases hc : c = 0
    · subst hc
      by_cases hk1 : k = 1
      · subst hk1
        refine Pc_of (Gf_enter (C := Cf G) Tryz.func17 rfl ok17 (Nat.le_of_ble_eq_true rfl) ?_)
        simp only [Tryz.f17, Option.getD_some]
        refine wC1 trivial (wa h1 trivial) ?_
        all_goals (simp [one1, frz_t, frz_a, mapF, frz_s, frz_l, frz_n, encs, u32s, strs] <;> rfl)
      · by_cases hk2 : k = 2
        · subst hk2
          refine Pc_of (Gf_enter (C := Cf G) Tryz.func17 rfl ok17 (Nat.le_of_ble_eq_true rfl) ?_)
          simp only [Tryz.f17, Option.getD_some]
          refine wC1 trivial (wa h1 trivial) ?_
          all_goals (simp [one1, frz_t, frz_a, mapF, frz_s, frz_l, frz_n, encs, u32s, strs] <;> rfl)
        · by_cases hk3 : k = 3
          · subst hk3
            have h2 := h2 rfl rfl
            unfold encR encD at h2
            generalize settleD false (nv cf).toNat ex = r at *
            refine Pc_of (Gf_enter (C := Cf G) Tryz.func17 rfl ok17 (Nat.le_of_ble_eq_true rfl) ?_)
            simp only [Tryz.f17, Option.getD_some]
            refine wC1 trivial (wa h1 (wa h2 trivial)) ?_
            all_goals (simp [one1, frz_t, frz_a, mapF, frz_s, frz_l, frz_n, encs, u32s, strs] <;> rfl)
          · by_cases hk4 : k = 4
            · subst hk4
              have h3 := h3 rfl
              refine Pc_of (Gf_enter (C := Cf G) Tryz.func17 rfl ok17 (Nat.le_of_ble_eq_true rfl) ?_)
              simp only [Tryz.f17, Option.getD_some]
              refine wC1 trivial (wa h1 (wa h3 (wa h4 trivial))) ?_
              all_goals (simp [one1, frz_t, frz_a, mapF, frz_s, frz_l, frz_n, encs, u32s, strs] <;> rfl)
            · refine Pc_of (Gf_enter (C := Cf G) Tryz.func17 rfl ok17 (Nat.le_of_ble_eq_true rfl) ?_)
              simp only [Tryz.f17, Option.getD_some]
              refine wC1 (wa hk1 (wa hk2 (wa hk3 hk4))) (wa h1 (wa h5 trivial)) ?_
              all_goals (simp [one1, frz_t, frz_a, mapF, frz_s, frz_l, frz_n, encs, u32s, strs, hk1, hk2, hk3, hk4] <;> rfl)
    · refine Pc_of (Gf_enter (C := Cf G) Tryz.func17 rfl ok17 (Nat.le_of_ble_eq_true rfl) ?_)
      simp only [Tryz.f17, Option.getD_some]
      refine wC1 hc (wa h1 trivial) ?_
      all_goals (simp [one1, frz_t, frz_a, mapF, frz_s, frz_l, frz_n, encs, u32s, strs, hc] <;> rfl)
end Go.Proofs.Bv
namespace Go.Proofs.Bv
open Go
theorem ok189 : codeOk 26 (Tryz.f189.body.getD .skip) = true := by kernel_rfl
theorem ok131 : codeOk 22 (Tryz.f131.body.getD .skip) = true := by kernel_rfl
theorem idxS_rng : (l : List ByteArray) → (s : ByteArray) → (i : Nat) → idxS l s i = -1 ∨ ((i : Int) ≤ idxS l s i ∧ idxS l s i < (i : Int) + l.length)
  | [], s, i => .inl rfl
  | x :: r, s, i => by
    simp only [idxS, List.length_cons]
    split
    · right; omega
    · rcases idxS_rng r s (i + 1) with h | h
      · exact .inl h
      · right; omega
def getV (ks : List ByteArray) (l : List JV) (s : ByteArray) : Option JV := if 0 ≤ idxS ks s 0 then l[(idxS ks s 0).toNat]? else none
def getR : Option JV → AV
  | some x => .tup [.agg (enc x), .sc (.bool true)]
  | none => .tup [.agg (enc nullV), .sc (.bool false)]
set_option maxHeartbeats 4000000 in
set_option maxRecDepth 100000 in
theorem pc189 (G : Nat → Option (List AV)) (ng : Bool) (cf : List Int) (ex : Int) (t : ByteArray) (l : List JV) (ks : List ByteArray) (s : ByteArray) (hk : ks.length ≤ 140737488355328) (hl : ks.length = l.length) :
    Pc (Cf G) 189 [.agg (enc (.mk 6 ng cf ex t l ks)), .sc (.string s)] (.tup [.sc (.int .i64 (idxS ks s 0)), .sc (.bool (decide (0 ≤ idxS ks s 0)))]) := by
  have h1 := pc104 G ks s hk
  have hr := idxS_rng ks s 0
  simp only [enc]
  generalize idxS ks s 0 = i at *
  by_cases h0 : 0 ≤ i
  · have hi : i < (l.length : Int) := by omega
    rw [decide_eq_true h0]
    refine Pc_of (Gf_enter (C := Cf G) Tryz.func189 rfl ok189 (Nat.le_of_ble_eq_true rfl) ?_)
    simp only [Tryz.f189, Option.getD_some]
    refine wC1 (wa h0 hi) (wa h1 trivial) ?_
    simp only [one1, frz_t, mapF, frz_s, Option.map_some, List.append_nil]
  · rw [decide_eq_false h0]
    refine Pc_of (Gf_enter (C := Cf G) Tryz.func189 rfl ok189 (Nat.le_of_ble_eq_true rfl) ?_)
    simp only [Tryz.f189, Option.getD_some]
    refine wC1 h0 (wa h1 trivial) ?_
    simp only [one1, frz_t, mapF, frz_s, Option.map_some, List.append_nil]
set_option maxHeartbeats 4000000 in
set_option maxRecDepth 100000 in
theorem pc131 (G : Nat → Option (List AV)) (ng : Bool) (cf : List Int) (ex : Int) (t : ByteArray) (l : List JV) (ks : List ByteArray) (s : ByteArray) (hv : Fit (.mk 6 ng cf ex t l ks)) (hl : ks.length = l.length) :
    Pc (Cf G) 131 [.agg (enc (.mk 6 ng cf ex t l ks)), .sc (.string s)] (getR (getV ks l s)) := by
  have h1 := pc189 G ng cf ex t l ks s (by have := hv.1.nkeys; omega) hl
  have hr := idxS_rng ks s 0
  unfold getV
  simp only [enc] at h1 ⊢
  generalize idxS ks s 0 = i at *
  by_cases h0 : 0 ≤ i
  · rw [decide_eq_true h0] at h1
    rw [if_pos h0]
    obtain ⟨k, rfl⟩ : ∃ k : Nat, i = k := ⟨i.toNat, by omega⟩
    have hk : k < l.length := by omega
    rw [Int.toNat_natCast, List.getElem?_eq_getElem hk]
    have hx : l[k] ∈ l := List.getElem_mem hk
    have hc : l = l.take k ++ l[k] :: l.drop (k + 1) := by rw [← List.drop_eq_getElem_cons hk, List.take_append_drop]
    obtain ⟨x, r', hr', _, hcut, hle⟩ := split_at hc (by rw [List.length_take]; omega)
    simp only [List.cons.injEq] at hr'
    obtain ⟨hx', _⟩ := hr'
    rw [List.length_take, Nat.min_eq_left (by omega)] at hcut hle
    rw [hx'] at hx ⊢
    have h2 := pc63 G x (Fits_mem hv.2 x hx)
    obtain ⟨k1, g1, c1, e1, t1, l1, s1⟩ := x
    simp only [enc] at hcut h2
    simp only [getR, enc]
    refine Pc_of (Gf_enter (C := Cf G) Tryz.func131 rfl ok131 (Nat.le_of_ble_eq_true rfl) ?_)
    simp only [Tryz.f131, Option.getD_some]
    refine wC1 (wa hk (wa hcut hle)) (wa h1 (wa h2 trivial)) ?_
    simp only [one1, frz_t, frz_a, mapF, frz_s, frz_l, Option.map_some, List.append_nil]
  · rw [decide_eq_false h0] at h1
    rw [if_neg h0]
    simp only [getR, nullV, enc]
    refine Pc_of (Gf_enter (C := Cf G) Tryz.func131 rfl ok131 (Nat.le_of_ble_eq_true rfl) ?_)
    simp only [Tryz.f131, Option.getD_some]
    refine wC1 trivial (wa h1 trivial) ?_
    simp only [one1, frz_t, frz_a, mapF, frz_s, frz_n, Option.map_some, List.append_nil]
    rfl
end Go.Proofs.Bv
namespace Go.Proofs.Bv
open Go
theorem ok13 : codeOk 4 (Tryz.f13.body.getD .skip) = true := by kernel_rfl
theorem pc13 (G : Nat → Option (List AV)) (e : Int) (he : -9223372036854775808 ≤ e ∧ e ≤ 9223372036854775807) : Pc (Cf G) 13 [.sc (.int .i64 e)] (.sc (.int .i64 e)) := by
  have w := i64 he.1 he.2
  refine Pc_of (Gf_enter (C := Cf G) Tryz.func13 rfl ok13 (Nat.le_of_ble_eq_true rfl) ?_)
  simp only [Tryz.f13, Option.getD_some]
  refine wB1 w ?_
  simp only [one1, frz_s, Option.map_some]
theorem chkFrom_rng (s : ByteArray) (p : Nat) : 0 ≤ (chkFrom s p).2 ∧ (chkFrom s p).2 ≤ 100 := by
  unfold chkFrom
  split
  · rename_i h
    have := wide_rng s p h
    split
    · simp
    · exact chkFrom_rng s (p + wideAt s p)
  · simp
termination_by s.size - p
theorem letters_rng (s : ByteArray) : 0 ≤ letters s ∧ letters s ≤ 100 := by
  have := chkFrom_rng s 0
  unfold letters
  split
  · split <;> omega
  · omega
theorem textsK_rng : (ks : List ByteArray) → (e : Int) → 0 ≤ e ∧ e ≤ 100 → 0 ≤ textsK ks e ∧ textsK ks e ≤ 100
  | [], e, h => h
  | k :: r, e, h => by
    have := letters_rng k
    simp only [textsK]
    refine textsK_rng r _ ?_
    unfold or2
    split <;> omega
theorem own_rng (v : JV) : 0 ≤ own v ∧ own v ≤ 100 := by
  obtain ⟨k, ng, cf, ex, t, l, ks⟩ := v
  have := textsK_rng ks (letters t) (letters_rng t)
  simp only [own, texts]
  repeat' split
  all_goals omega
theorem firstErr_rng : (l : List JV) → 0 ≤ firstErr l ∧ firstErr l ≤ 100
  | [] => by simp [firstErr]
  | x :: r => by
    have := own_rng x
    have := firstErr_rng r
    simp only [firstErr]
    split <;> omega
theorem chk_rng (v : JV) : 0 ≤ chk v ∧ chk v ≤ 100 := by
  have := firstErr_rng (pre v)
  unfold chk
  repeat' split
  all_goals omega
end Go.Proofs.Bv
namespace Go.Proofs.Bv
open Go
theorem ok115 : codeOk 8 (Tryz.f115.body.getD .skip) = true := by kernel_rfl
theorem ok139 : codeOk 95 (Tryz.f139.body.getD .skip) = true := by kernel_rfl
theorem ok140 : codeOk 95 (Tryz.f140.body.getD .skip) = true := by kernel_rfl
theorem ok82 : codeOk 46 (Tryz.f82.body.getD .skip) = true := by kernel_rfl
theorem ok116w : codeOk 8 (Tryz.f116.body.getD .skip) = true := by kernel_rfl
set_option maxRecDepth 100000 in
theorem pc_uponC {C : Cfg} (hnn : NoNum C) (hoo : OrcOk C) (hmx : C.P.follows .mixedOrders = true) {f : FuncId} {args : List AV} {v : AV} (hc : Pc C f args v) {Z : Nat → Prop} {w : World} {us : List Value} (hr : HR C noMap Z noHeap w) (hus : RVl Z w args noMap us)
    (r : Option Nat) (o : Oper) (a : Act) (next : Act → World → Prop) (Q : Exit → Act → World → Prop)
    (hn : ∀ u w1 m1 Z1 h1 n1, Step C noMap Z noHeap 0 w m1 Z1 h1 n1 w1 → RV Z1 w1 v noMap u → next (a.put o.dst u) w1) :
    o.uponIn (Fw r) 0 C.P a next Q ((callFunc f us.toArray).run C.P w) := by
  obtain ⟨k, hk⟩ := hc
  unfold pcall at hk
  split at hk <;> try (cases hk; done)
  rename_i r1 h1 n1 he
  simp only [Option.map_eq_some_iff] at hk
  obtain ⟨⟨pr, ids1⟩, hfz, rfl⟩ := hk
  refine upon_fc (lv_ok hnn hoo hmx k).1 he (Nat.zero_le _) hr hus (fun _ _ _ => rfl) r o a next Q fun u w1 m1 Z1 s hu => ?_
  have hd1 := frz_dom h1 64 hfz
  have hu1 := frz_sound s.hr (Z' := Zof Z1 m1 ids1) (fun _ h => .inl h) 64 hfz (fun b hb mb e => .inr ⟨b, hb, mb, e, rfl⟩) hu
  have hk : ∀ r, r < w.heap.size → w1.heap[r]? = w.heap[r]? := fun r hr' => s.frame r hr' no_own
  have key : ∀ r, Z1 r → Z r ∨ w.heap.size ≤ r := fun r e => by
    rcases s.znew r e with e | e | e
    · exact .inl e
    · exact .inr e
    · exact absurd e no_own
  have sh := Step.shut (n := 0) hr (ids := []) (fun b hb => by simp at hb) (Z2 := Zof Z1 m1 ids1) s.size hk (fun r e => by
      rcases e with e | ⟨b, hb, _⟩
      · exact .inl (s.zext r e)
      · simp at hb) (fun r e => by
      rcases e with e | ⟨b, hb, mb, e1, e2⟩
      · exact (key r e).imp .inl id
      · by_cases hz : Z1 r
        · exact (key r hz).imp .inl id
        · rcases Nat.lt_or_ge r w.heap.size with hlt | hge
          · obtain ⟨cs, es, fz, e3⟩ := hd1 b hb
            exact absurd (s.dom r hlt ⟨b, _, mb, e3, e1, e2, hz⟩) no_own
          · exact .inr hge) (fun r e => by
      rcases e with e | ⟨b, hb, mb, e1, e2⟩
      · exact s.hr.zlt r e
      · obtain ⟨cs, es, fz, e3⟩ := hd1 b hb
        rw [← e2]
        exact s.hr.lt e3 e1) s.os s.tape s.output
  exact hn u w1 noMap _ _ 0 sh hu1
def inl3 (f : FuncId) : Bool := f == 115 || f == 116 || f == 139 || f == 140
noncomputable def C3 (G : Nat → Option (List AV)) : Cfg := ⟨Tryz.prog, G, inl3, fun f => if (inl3 f || f == 82) = true then none else some (orcL G f), fun _ => false⟩
theorem C3P {G : Nat → Option (List AV)} : (C3 G).P = Tryz.prog := rfl
attribute [go_sem] C3P
theorem nn3 (G : Nat → Option (List AV)) : NoNum (C3 G) := nn G
set_option maxRecDepth 100000 in
theorem orcOk3 (mx : Int) : OrcOk (C3 (Gu8 mx)) := by
  intro f g ars v hf hg Z w us hr hus r o a next Q hn
  have hf' : (if (inl3 f || f == 82) = true then none else some (orcL (Gu8 mx) f)) = some g := hf
  split at hf'
  · cases hf'
  · injection hf' with hf'
    subst hf'
    exact pc_upon (orcL_inv hg) (HR_cfg (C := C3 (Gu8 mx)) (C' := Cf (Gu8 mx)) rfl hr) hus r o a next Q fun u w1 m1 Z1 h1 n1 s => hn u w1 m1 Z1 h1 n1 (Step_cfg (C := Cf (Gu8 mx)) (C' := C3 (Gu8 mx)) rfl s)
theorem fc115 (G : Nat → Option (List AV)) (ks : List ByteArray) (m : Nat) (hkm : ks.length = m + 1) (hm : m ≤ 5000) (h : Heap) (n : Nat) :
    ∃ k, (lv (C3 G) k).fc 115 [.psl (strs ks) (m + 1)] h n = some (.osl (n + 1) 0 (m + 1), upd (upd (upd h n (some (.cells [] 1 false))) n none) (n + 1) (some (.cells (strs ks) 1 false)), n + 1 + 1) := by
  have hxl : (strs ks).length = (m + 1) * 1 := by rw [strs_len]; omega
  have h1 : (m + 1) * 16 ≤ 140737488355328 := by omega
  have h2 : m + 1 ≤ 140737488355328 := by omega
  have h3 : 0 + (m + 1) * 1 ≤ (m + 1) * 1 := by omega
  have h4 : cut (strs ks) 0 ((m + 1) * 1) = strs ks := by
    simp only [cut, List.drop_zero]
    rw [List.take_of_length_le (by omega)]
  have hv : vbin Tryz.prog .eql 26 (.tmp 3) (.const (.slice none 0 0)) (.psl (strs ks) (m + 1)) .nilS = some (.sc (.bool false)) := by
    simp only [vbin, toVal, Tryz.underlying26, nilDesc, vnil]
  refine of_Gf ?_
  refine Gf_enter (C := C3 G) Tryz.func115 rfl ok115 (Nat.le_of_ble_eq_true rfl) ?_
  simp only [Tryz.f115, Option.getD_some]
  refine wB1 (wa hv (wa hxl (wa h1 (wa h2 (wa h3 h4))))) ?_
  exact ⟨rfl, rfl, rfl⟩
theorem fc116c (G : Nat → Option (List AV)) (l : List JV) (m : Nat) (hlm : l.length = m + 1) (hm : m ≤ 5000) (h : Heap) (n : Nat) :
    ∃ k, (lv (C3 G) k).fc 116 [.psl (encs l) (m + 1)] h n = some (.osl (n + 1) 0 (m + 1), upd (upd (upd h n (some (.cells [] 7 false))) n none) (n + 1) (some (.cells (encs l) 7 false)), n + 1 + 1) := by
  have hxl : (encs l).length = (m + 1) * 7 := by rw [encs_len]; omega
  have h1 : (m + 1) * 112 ≤ 140737488355328 := by omega
  have h2 : m + 1 ≤ 140737488355328 := by omega
  have h3 : 0 + (m + 1) * 7 ≤ (m + 1) * 7 := by omega
  have h4 : cut (encs l) 0 ((m + 1) * 7) = encs l := by
    simp only [cut, List.drop_zero]
    rw [List.take_of_length_le (by omega)]
  have hv : vbin Tryz.prog .eql 25 (.tmp 3) (.const (.slice none 0 0)) (.psl (encs l) (m + 1)) .nilS = some (.sc (.bool false)) := by
    simp only [vbin, toVal, Tryz.underlying25, nilDesc, vnil]
  refine of_Gf ?_
  refine Gf_enter (C := C3 G) Tryz.func116 rfl ok116w (Nat.le_of_ble_eq_true rfl) ?_
  simp only [Tryz.f116, Option.getD_some]
  refine wB1 (wa hv (wa hxl (wa h1 (wa h2 (wa h3 h4))))) ?_
  exact ⟨rfl, rfl, rfl⟩
theorem fc139 (G : Nat → Option (List AV)) (cs : List AV) (a : AV) (m b c n : Nat) (h : Heap) (hm : m ≤ 5001) (hm0 : 0 < m) (hcl : cs.length = m) (hb : h b = some (.cells cs 1 false)) (hc : h c = some (.cells [a] 1 false)) (hbn : b < n) (hcn : c < n) :
    ∃ k, (lv (C3 G) k).fc 139 [.osl b 0 m, .sc (.int .i64 m), .osl c 0 1] h n = some (.osl n 0 (m + 1), upd (upd h b none) n (some (.cells (cs ++ [a]) 1 false)), n + 1) := by
  have g1 : (m + 1) * 16 ≤ 140737488355328 := by omega
  have g2 : m + 1 ≤ 140737488355328 := by omega
  have g3 : m * 1 ≤ cs.length := by omega
  have g4 : cut cs 0 (m * 1) = cs := by
    simp only [cut, List.drop_zero]
    rw [List.take_of_length_le (by omega)]
  have hbd : bnds m (some (.sc (.int .i64 m))) none = some (m, m) := by simp [bnds, asNat]
  have e1 : ¬ m = 0 := by omega
  have e2 : ¬ m < m := by omega
  have z1 : ¬ b = n := by omega
  have z2 : ¬ n = b := by omega
  have z3 : ¬ c = n := by omega
  have z4 : ¬ n = c := by omega
  refine of_Gf ?_
  refine Gf_enter (C := C3 G) Tryz.func139 rfl ok139 (Nat.le_of_ble_eq_true rfl) ?_
  simp only [Tryz.f139, Option.getD_some]
  refine wB1 (wa hb (wa hc (wa g1 (wa g2 (wa g3 (wa g4 (wa hbd (wa e1 (wa e2 (wa z1 (wa z2 (wa z3 z4)))))))))))) ?_
  exact ⟨rfl, rfl, rfl⟩
theorem fc140 (G : Nat → Option (List AV)) (cs : List AV) (Z : List AV) (m b c n : Nat) (h : Heap) (hm : m ≤ 5001) (hm0 : 0 < m) (hcl : cs.length = m * 7) (hZ : Z.length = 7) (hb : h b = some (.cells cs 7 false)) (hc : h c = some (.cells Z 7 false)) (hbn : b < n) (hcn : c < n) :
    ∃ k, (lv (C3 G) k).fc 140 [.osl b 0 m, .sc (.int .i64 m), .osl c 0 1] h n = some (.osl n 0 (m + 1), upd (upd h b none) n (some (.cells (cs ++ Z) 7 false)), n + 1) := by
  have g1 : (m + 1) * 112 ≤ 140737488355328 := by omega
  have g2 : m + 1 ≤ 140737488355328 := by omega
  have g3 : m * 7 ≤ cs.length := by omega
  have g4 : cut cs 0 (m * 7) = cs := by
    simp only [cut, List.drop_zero]
    rw [List.take_of_length_le (by omega)]
  have hbd : bnds m (some (.sc (.int .i64 m))) none = some (m, m) := by simp [bnds, asNat]
  have g5 : cut Z 0 7 = Z := by rw [cut, List.drop_zero, List.take_of_length_le (by omega)]
  have e1 : ¬ m = 0 := by omega
  have e2 : ¬ m < m := by omega
  have z1 : ¬ b = n := by omega
  have z2 : ¬ n = b := by omega
  have z3 : ¬ c = n := by omega
  have z4 : ¬ n = c := by omega
  refine of_Gf ?_
  refine Gf_enter (C := C3 G) Tryz.func140 rfl ok140 (Nat.le_of_ble_eq_true rfl) ?_
  simp only [Tryz.f140, Option.getD_some]
  refine wB1 (wa hb (wa hc (wa g1 (wa g2 (wa g3 (wa g4 (wa g5 (wa hZ (wa hbd (wa e1 (wa e2 (wa z1 (wa z2 (wa z3 z4)))))))))))))) ?_
  exact ⟨rfl, rfl, rfl⟩
def objW (l : List JV) (ks : List ByteArray) : JV := .mk 6 false [] 0 ⟨#[]⟩ l ks
set_option maxHeartbeats 8000000 in
set_option maxRecDepth 100000 in
theorem pc82m (G : Nat → Option (List AV)) (l : List JV) (ks : List ByteArray) (s : ByteArray) (x : JV) (m : Nat) (hkm : ks.length = m + 1) (hlm : l.length = m + 1) (hm : m ≤ 5000) (hb : ∀ k ∈ ks, bl k s) :
    Pc (C3 G) 82 [.agg (enc (objW l ks)), .sc (.string s), .agg (enc x)] (.agg (enc (objW (l ++ [x]) (ks ++ [s])))) := by
  have h138 := orcL_of (pc138 G ks s hb (by omega))
  have lx := enc_len x
  have ox : (enc x).all AV.one = true := by cases x; rfl
  simp only [objW, enc, u32s, List.map_nil, List.length_nil, hkm, hlm, List.length_append, List.length_cons, Nat.zero_add, Nat.reduceAdd] at h138 ⊢
  generalize hX : enc x = X at *
  refine Pc_of (Gf_enter (C := C3 G) Tryz.func82 rfl ok82 (Nat.le_of_ble_eq_true rfl) ?_)
  simp only [Tryz.f82, Option.getD_some]
  have h115 := fc115 G ks m hkm hm noHeap 3
  have h116 := fc116c G l m hlm hm noHeap 5
  repeat' first | refine w_op rfl rfl ?_ | refine x_p rfl ?_ | refine w_sr ?_ | refine st_nil ?_ | refine w_seq ?_ | refine st_region ?_ | refine st_block ?_ | refine w_cond ?_ | refine b_t ?_ | refine b_f ?_ | refine st_skip ?_ | refine st_exit ?_ | refine st_ret ?_ | refine st_onNormN ?_ | refine st_onNormE ?_ | refine st_onNormR ?_ | refine st_onExitN ?_ | refine st_onExitR ?_ | refine st_onExitS ?_ | refine st_onExitO (by decide) ?_ | refine g_t ?_ | refine g_f rfl ?_ | refine o_op rfl ?_ | refine w_wr ?_ | refine w_wn ?_ | refine d_c rfl ?_ | refine d_on rfl ?_ | refine d_op rfl ?_ | refine d_y ?_ | refine d_gd rfl ?_ | refine d_t ?_ | refine d_f ?_ | refine d_nil ?_ | refine w_dg rfl ?_ | refine d_mid ?_ | refine d_mj ?_ | refine d_e ?_ | refine n_0 rfl ?_ | refine d_n ?_ | refine k_i rfl rfl (h115) ?_ | refine n_1 (by omega) rfl ?_ | refine k_d rfl rfl rfl (h115) ?_ | refine d_m (by omega) ?_ | refine k_i rfl rfl (h116) ?_ | refine k_d rfl rfl rfl (h116) ?_ | refine k_o rfl rfl rfl ?_ | refine w_gd rfl ?_ | ((first | refine zE1 ?_ | refine w_cl rfl rfl ?_ | refine o_cl rfl ?_ | refine d_cl rfl ?_); (conv => arg 1; try simp only [go_sem, Nat.reduceEqDiff, reduceIte, Nat.reduceAdd, Nat.reduceLeDiff, Nat.reduceMul, Int.reduceEq, Int.reduceLT, Int.reduceLE, Int.reduceNeg, Int.reduceAdd, Int.reduceSub, Nat.reduceLT, Nat.reduceBEq, Nat.reduceSub, Nat.reducePow, h138, lx, ox, rep, List.range'_succ]); first | refine zE3 ?_ | refine zE2 ?_ | refine zE4 ?_ | refine zE5 ?_ | refine zE6 ?_ | refine zE7 ?_ | refine zE8 ?_) | (refine w_u true ?_; (conv => arg 1; reduce); refine zR1 ?_) | (refine b_s (fun hb => ?_) (fun hb => ?_) <;> ((try simp only [hn1, hn2, hn3, hn4] at hb); first | (exfalso; omega) | skip)) | (first | refine g_s (fun hb => ?_) (fun hb => ?_) | refine d_s (fun hb => ?_) (fun hb => ?_)) <;> ((try simp only [hn1, hn2] at hb); rw [hb]; try simp only [hn3, hn4] at hb)
  have ls : (strs ks).length = m + 1 := by rw [strs_len, hkm]
  have le : (encs l).length = (m + 1) * 7 := by rw [encs_len, hlm]
  have xc : cut X 0 7 = X := by rw [cut, List.drop_zero, List.take_of_length_le (by omega)]
  have q1 : m + 1 < m + 1 + 1 := by omega
  have b1 : (m + 1) * 7 + 7 ≤ (encs l ++ [AV.sc (.int .i64 0), .sc (.bool false), .nilS, .sc (.int .i64 0), .sc (.string ByteArray.empty), .nilS, .nilS]).length := by
    rw [List.length_append, le]
    simp
  have s1 : (encs l ++ [AV.sc (.int .i64 0), .sc (.bool false), .nilS, .sc (.int .i64 0), .sc (.string ByteArray.empty), .nilS, .nilS]).take ((m + 1) * 7) ++ X ++ (encs l ++ [AV.sc (.int .i64 0), .sc (.bool false), .nilS, .sc (.int .i64 0), .sc (.string ByteArray.empty), .nilS, .nilS]).drop ((m + 1) * 7 + 7) = encs l ++ X := by
    rw [← le, List.take_left, List.drop_of_length_le (by rw [List.length_append]; simp), List.append_nil]
  repeat' first | refine w_op rfl rfl ?_ | refine x_p rfl ?_ | refine w_sr ?_ | refine st_nil ?_ | refine w_seq ?_ | refine st_region ?_ | refine st_block ?_ | refine w_cond ?_ | refine b_t ?_ | refine b_f ?_ | refine st_skip ?_ | refine st_exit ?_ | refine st_ret ?_ | refine st_onNormN ?_ | refine st_onNormE ?_ | refine st_onNormR ?_ | refine st_onExitN ?_ | refine st_onExitR ?_ | refine st_onExitS ?_ | refine st_onExitO (by decide) ?_ | refine g_t ?_ | refine g_f rfl ?_ | refine o_op rfl ?_ | refine w_wr ?_ | refine w_wn ?_ | refine d_c rfl ?_ | refine d_on rfl ?_ | refine d_op rfl ?_ | refine d_y ?_ | refine d_gd rfl ?_ | refine d_t ?_ | refine d_f ?_ | refine d_nil ?_ | refine w_dg rfl ?_ | refine d_mid ?_ | refine d_mj ?_ | refine d_e ?_ | refine n_0 rfl ?_ | refine d_n ?_ | refine k_e rfl rfl rfl (fc139 G _ _ _ _ _ _ _ (by omega) (by omega) ls rfl rfl (by omega) (by omega)) ?_ | refine d_m (by omega) ?_ | refine k_e rfl rfl rfl (fc140 G _ _ _ _ _ _ _ (by omega) (by omega) le rfl rfl rfl (by omega) (by omega)) ?_ | refine k_o rfl rfl rfl ?_ | refine w_gd rfl ?_ | ((first | refine zE1 ?_ | refine w_cl rfl rfl ?_ | refine o_cl rfl ?_ | refine d_cl rfl ?_); (conv => arg 1; try simp only [go_sem, Nat.reduceEqDiff, reduceIte, Nat.reduceAdd, Nat.reduceLeDiff, Nat.reduceMul, Int.reduceEq, Int.reduceLT, Int.reduceLE, Int.reduceNeg, Int.reduceAdd, Int.reduceSub, Nat.reduceLT, Nat.reduceBEq, Nat.reduceSub, Nat.reducePow, lx, ox, xc, q1, b1, s1, List.range'_succ, rootss, AV.roots, rep]); first | refine zE3 ?_ | refine zE2 ?_ | refine zE4 ?_ | refine zE5 ?_ | refine zE6 ?_ | refine zE7 ?_ | refine zE8 ?_) | (refine w_u true ?_; (conv => arg 1; reduce); refine zR1 ?_) | (refine b_s (fun hb => ?_) (fun hb => ?_) <;> ((try simp only [hn1, hn2, hn3, hn4] at hb); first | (exfalso; omega) | skip)) | (first | refine g_s (fun hb => ?_) (fun hb => ?_) | refine d_s (fun hb => ?_) (fun hb => ?_)) <;> ((try simp only [hn1, hn2] at hb); rw [hb]; try simp only [hn3, hn4] at hb)
  have er : encs (l ++ [x]) = encs l ++ X := by rw [encs_app, encs, encs, List.append_nil, hX]
  have es : strs (ks ++ [s]) = strs ks ++ [.sc (.string s)] := by simp [strs]
  have px : purs X = true := by rw [← hX]; exact enc_pur x
  simp only [one1]
  rw [frz_a]
  simp only [mapF, frz_s, frz_n]
  rw [frz_w (b := 11) (es := 7) (fz := false) (cs := encs l ++ X) ?a1 ?a2 ?a3, frz_w (b := 9) (es := 1) (fz := false) (cs := strs ks ++ [.sc (.string s)]) ?a4 ?a5 ?a6, er, es]
  · rfl
  case a1 => rfl
  case a2 => rw [List.length_append, le, lx]; omega
  case a3 => rw [purs_app, encs_pur, px]; rfl
  case a4 => rfl
  case a5 => simp only [List.length_append, ls, List.length_cons, List.length_nil]; omega
  case a6 => rw [purs_app, strs_pur]; rfl
end Go.Proofs.Bv
namespace Go.Proofs.Bv
open Go
theorem fc115n (G : Nat → Option (List AV)) (h : Heap) (n : Nat) : ∃ k, (lv (C3 G) k).fc 115 [.nilS] h n = some (.nilS, h, n) := by
  have hv : vbin Tryz.prog .eql 26 (.tmp 3) (.const (.slice none 0 0)) .nilS .nilS = some (.sc (.bool true)) := by
    simp only [vbin, toVal, Tryz.underlying26, nilDesc, vnil]
  refine of_Gf ?_
  refine Gf_enter (C := C3 G) Tryz.func115 rfl ok115 (Nat.le_of_ble_eq_true rfl) ?_
  simp only [Tryz.f115, Option.getD_some]
  refine wB1 hv ?_
  exact ⟨rfl, rfl, rfl⟩
theorem fc115e (G : Nat → Option (List AV)) (h : Heap) (n : Nat) : ∃ k, (lv (C3 G) k).fc 115 [.emp] h n = some (.osl (n + 1) 0 0, upd (upd (upd h n (some (.cells [] 1 false))) n none) (n + 1) (some (.cells [] 1 false)), n + 1 + 1) := by
  have hv : vbin Tryz.prog .eql 26 (.tmp 3) (.const (.slice none 0 0)) .emp .nilS = some (.sc (.bool false)) := by
    simp only [vbin, toVal, Tryz.underlying26, nilDesc, vnil]
  refine of_Gf ?_
  refine Gf_enter (C := C3 G) Tryz.func115 rfl ok115 (Nat.le_of_ble_eq_true rfl) ?_
  simp only [Tryz.f115, Option.getD_some]
  refine wB1 hv ?_
  exact ⟨rfl, rfl, rfl⟩
theorem fc116n (G : Nat → Option (List AV)) (h : Heap) (n : Nat) : ∃ k, (lv (C3 G) k).fc 116 [.nilS] h n = some (.nilS, h, n) := by
  have hv : vbin Tryz.prog .eql 25 (.tmp 3) (.const (.slice none 0 0)) .nilS .nilS = some (.sc (.bool true)) := by
    simp only [vbin, toVal, Tryz.underlying25, nilDesc, vnil]
  refine of_Gf ?_
  refine Gf_enter (C := C3 G) Tryz.func116 rfl ok116w (Nat.le_of_ble_eq_true rfl) ?_
  simp only [Tryz.f116, Option.getD_some]
  refine wB1 hv ?_
  exact ⟨rfl, rfl, rfl⟩
theorem fc116e (G : Nat → Option (List AV)) (h : Heap) (n : Nat) : ∃ k, (lv (C3 G) k).fc 116 [.emp] h n = some (.osl (n + 1) 0 0, upd (upd (upd h n (some (.cells [] 7 false))) n none) (n + 1) (some (.cells [] 7 false)), n + 1 + 1) := by
  have hv : vbin Tryz.prog .eql 25 (.tmp 3) (.const (.slice none 0 0)) .emp .nilS = some (.sc (.bool false)) := by
    simp only [vbin, toVal, Tryz.underlying25, nilDesc, vnil]
  refine of_Gf ?_
  refine Gf_enter (C := C3 G) Tryz.func116 rfl ok116w (Nat.le_of_ble_eq_true rfl) ?_
  simp only [Tryz.f116, Option.getD_some]
  refine wB1 hv ?_
  exact ⟨rfl, rfl, rfl⟩
theorem fc139n (G : Nat → Option (List AV)) (a : AV) (c n : Nat) (h : Heap) (hc : h c = some (.cells [a] 1 false)) (hcn : c < n) :
    ∃ k, (lv (C3 G) k).fc 139 [.nilS, .sc (.int .i64 ((0 : Nat) : Int)), .osl c 0 1] h n = some (.osl n 0 1, upd h n (some (.cells [a] 1 false)), n + 1) := by
  have hbd : bnds 0 (some (.sc (.int .i64 ((0 : Nat) : Int)))) none = some (0, 0) := by simp [bnds, asNat]
  have hbd' : bnds 0 (some (.sc (.int .i64 0))) none = some (0, 0) := by simp [bnds, asNat]
  refine of_Gf ?_
  refine Gf_enter (C := C3 G) Tryz.func139 rfl ok139 (Nat.le_of_ble_eq_true rfl) ?_
  simp only [Tryz.f139, Option.getD_some]
  refine wB1 (wa hc (wa hbd hbd')) ?_
  exact ⟨rfl, rfl, rfl⟩
theorem fc139e (G : Nat → Option (List AV)) (a : AV) (b c n : Nat) (h : Heap) (hb : h b = some (.cells [] 1 false)) (hc : h c = some (.cells [a] 1 false)) (hbn : b < n) (hcn : c < n) :
    ∃ k, (lv (C3 G) k).fc 139 [.osl b 0 0, .sc (.int .i64 ((0 : Nat) : Int)), .osl c 0 1] h n = some (.osl n 0 1, upd (upd h b none) n (some (.cells [a] 1 false)), n + 1) := by
  have hbd : bnds 0 (some (.sc (.int .i64 ((0 : Nat) : Int)))) none = some (0, 0) := by simp [bnds, asNat]
  have hbd' : bnds 0 (some (.sc (.int .i64 0))) none = some (0, 0) := by simp [bnds, asNat]
  have z1 : ¬ b = n := by omega
  have z2 : ¬ n = b := by omega
  have z3 : ¬ c = n := by omega
  have z4 : ¬ n = c := by omega
  refine of_Gf ?_
  refine Gf_enter (C := C3 G) Tryz.func139 rfl ok139 (Nat.le_of_ble_eq_true rfl) ?_
  simp only [Tryz.f139, Option.getD_some]
  refine wB1 (wa hb (wa hc (wa hbd (wa hbd' (wa z1 (wa z2 (wa z3 z4))))))) ?_
  exact ⟨rfl, rfl, rfl⟩
theorem fc140n (G : Nat → Option (List AV)) (Z : List AV) (c n : Nat) (h : Heap) (hZ : Z.length = 7) (hc : h c = some (.cells Z 7 false)) (hcn : c < n) :
    ∃ k, (lv (C3 G) k).fc 140 [.nilS, .sc (.int .i64 ((0 : Nat) : Int)), .osl c 0 1] h n = some (.osl n 0 1, upd h n (some (.cells Z 7 false)), n + 1) := by
  have g5 : cut Z 0 7 = Z := by rw [cut, List.drop_zero, List.take_of_length_le (by omega)]
  have hbd : bnds 0 (some (.sc (.int .i64 ((0 : Nat) : Int)))) none = some (0, 0) := by simp [bnds, asNat]
  have hbd' : bnds 0 (some (.sc (.int .i64 0))) none = some (0, 0) := by simp [bnds, asNat]
  refine of_Gf ?_
  refine Gf_enter (C := C3 G) Tryz.func140 rfl ok140 (Nat.le_of_ble_eq_true rfl) ?_
  simp only [Tryz.f140, Option.getD_some]
  refine wB1 (wa hc (wa hbd (wa hbd' (wa g5 hZ)))) ?_
  exact ⟨rfl, rfl, rfl⟩
theorem fc140e (G : Nat → Option (List AV)) (Z : List AV) (b c n : Nat) (h : Heap) (hZ : Z.length = 7) (hb : h b = some (.cells [] 7 false)) (hc : h c = some (.cells Z 7 false)) (hbn : b < n) (hcn : c < n) :
    ∃ k, (lv (C3 G) k).fc 140 [.osl b 0 0, .sc (.int .i64 ((0 : Nat) : Int)), .osl c 0 1] h n = some (.osl n 0 1, upd (upd h b none) n (some (.cells Z 7 false)), n + 1) := by
  have g5 : cut Z 0 7 = Z := by rw [cut, List.drop_zero, List.take_of_length_le (by omega)]
  have hbd : bnds 0 (some (.sc (.int .i64 ((0 : Nat) : Int)))) none = some (0, 0) := by simp [bnds, asNat]
  have hbd' : bnds 0 (some (.sc (.int .i64 0))) none = some (0, 0) := by simp [bnds, asNat]
  have z1 : ¬ b = n := by omega
  have z2 : ¬ n = b := by omega
  have z3 : ¬ c = n := by omega
  have z4 : ¬ n = c := by omega
  refine of_Gf ?_
  refine Gf_enter (C := C3 G) Tryz.func140 rfl ok140 (Nat.le_of_ble_eq_true rfl) ?_
  simp only [Tryz.f140, Option.getD_some]
  refine wB1 (wa hb (wa hc (wa hbd (wa hbd' (wa z1 (wa z2 (wa z3 (wa z4 (wa g5 hZ))))))))) ?_
  exact ⟨rfl, rfl, rfl⟩
set_option maxHeartbeats 8000000 in
set_option maxRecDepth 100000 in
theorem pc82nn (G : Nat → Option (List AV)) (s : ByteArray) (x : JV) :
    Pc (C3 G) 82 [.agg [.sc (.int .i64 6), .sc (.bool false), .psl [] 0, .sc (.int .i64 0), .sc (.string ⟨#[]⟩), .nilS, .nilS], .sc (.string s), .agg (enc x)] (.agg (enc (objW [x] [s]))) := by
  have h138 : orcL G 138 [.psl [] 0, .sc (.string s)] = some (.tup [.sc (.int .i64 ((0 : Nat) : Int)), .sc (.bool false)]) := orcL_of (pc138 G [] s (by simp) (by simp))
  have lx := enc_len x
  have ox : (enc x).all AV.one = true := by cases x; rfl
  simp only [objW, enc, u32s, strs, encs, List.map_nil, List.map_cons, List.length_nil, List.length_cons, Nat.zero_add, Nat.reduceAdd, List.append_nil]
  have px : purs (enc x) = true := enc_pur x
  generalize enc x = X at *
  have xc : cut X 0 7 = X := by rw [cut, List.drop_zero, List.take_of_length_le (by omega)]
  refine Pc_of (Gf_enter (C := C3 G) Tryz.func82 rfl ok82 (Nat.le_of_ble_eq_true rfl) ?_)
  simp only [Tryz.f82, Option.getD_some]
  repeat' first | refine w_op rfl rfl ?_ | refine x_p rfl ?_ | refine w_sr ?_ | refine st_nil ?_ | refine w_seq ?_ | refine st_region ?_ | refine st_block ?_ | refine w_cond ?_ | refine b_t ?_ | refine b_f ?_ | refine st_skip ?_ | refine st_exit ?_ | refine st_ret ?_ | refine st_onNormN ?_ | refine st_onNormE ?_ | refine st_onNormR ?_ | refine st_onExitN ?_ | refine st_onExitR ?_ | refine st_onExitS ?_ | refine st_onExitO (by decide) ?_ | refine g_t ?_ | refine g_f rfl ?_ | refine o_op rfl ?_ | refine w_wr ?_ | refine w_wn ?_ | refine d_c rfl ?_ | refine d_on rfl ?_ | refine d_op rfl ?_ | refine d_y ?_ | refine d_gd rfl ?_ | refine d_t ?_ | refine d_f ?_ | refine d_nil ?_ | refine w_dg rfl ?_ | refine d_mid ?_ | refine d_mj ?_ | refine d_e ?_ | refine n_0 rfl ?_ | refine d_n ?_ | refine k_e rfl rfl rfl (fc115n G _ _) ?_ | refine d_m (by omega) ?_ | refine k_e rfl rfl rfl (fc115e G _ _) ?_ | refine k_e rfl rfl rfl (fc116n G _ _) ?_ | refine k_e rfl rfl rfl (fc116e G _ _) ?_ | refine k_e rfl rfl rfl (fc139n G _ _ _ _ rfl (by omega)) ?_ | refine k_e rfl rfl rfl (fc139e G _ _ _ _ _ rfl rfl (by omega) (by omega)) ?_ | refine k_e rfl rfl rfl (fc140n G _ _ _ _ rfl rfl (by omega)) ?_ | refine k_e rfl rfl rfl (fc140e G _ _ _ _ _ rfl rfl rfl (by omega) (by omega)) ?_ | refine k_o rfl rfl rfl ?_ | refine k_z rfl ?_ | refine z_f rfl rfl (h138) rfl ?_ | refine z_g rfl rfl (h138) rfl ?_ | refine z_of rfl rfl (h138) rfl ?_ | refine z_og rfl rfl (h138) rfl ?_ | refine d_m (Nat.le_refl _) ?_ | refine w_gd rfl ?_ | ((first | refine zE1 ?_ | refine w_cl rfl rfl ?_ | refine o_cl rfl ?_ | refine d_cl rfl ?_); (conv => arg 1; try simp only [go_sem, Nat.reduceEqDiff, reduceIte, Nat.reduceAdd, Nat.reduceLeDiff, Nat.reduceMul, Int.reduceEq, Int.reduceLT, Int.reduceLE, Int.reduceNeg, Int.reduceAdd, Int.reduceSub, Nat.reduceLT, Nat.reduceBEq, Nat.reduceSub, Nat.reducePow, h138, lx, ox, xc, rep, List.range'_succ, rootss, AV.roots]); first | refine zE3 ?_ | refine zE2 ?_ | refine zE4 ?_ | refine zE5 ?_ | refine zE6 ?_ | refine zE7 ?_ | refine zE8 ?_) | (refine w_u true ?_; (conv => arg 1; reduce); refine zR1 ?_) | (refine b_s (fun hb => ?_) (fun hb => ?_) <;> ((try simp only [hn1, hn2, hn3, hn4] at hb); first | (exfalso; omega) | skip)) | (first | refine g_s (fun hb => ?_) (fun hb => ?_) | refine d_s (fun hb => ?_) (fun hb => ?_)) <;> ((try simp only [hn1, hn2] at hb); rw [hb]; try simp only [hn3, hn4] at hb)
  simp only [one1]
  rw [frz_a]
  simp only [mapF, frz_s, frz_n, frz_l]
  rw [frz_w (b := 7) (es := 7) (fz := false) (cs := X) ?a1 ?a2 ?a3, frz_w (b := 5) (es := 1) (fz := false) (cs := [.sc (.string s)]) ?a4 ?a5 ?a6]
  · rfl
  case a1 => rfl
  case a2 => exact lx
  case a3 => exact px
  case a4 => rfl
  case a5 => rfl
  case a6 => rfl
set_option maxHeartbeats 8000000 in
set_option maxRecDepth 100000 in
theorem pc82ne (G : Nat → Option (List AV)) (s : ByteArray) (x : JV) :
    Pc (C3 G) 82 [.agg [.sc (.int .i64 6), .sc (.bool false), .psl [] 0, .sc (.int .i64 0), .sc (.string ⟨#[]⟩), .emp, .nilS], .sc (.string s), .agg (enc x)] (.agg (enc (objW [x] [s]))) := by
  have h138 : orcL G 138 [.psl [] 0, .sc (.string s)] = some (.tup [.sc (.int .i64 ((0 : Nat) : Int)), .sc (.bool false)]) := orcL_of (pc138 G [] s (by simp) (by simp))
  have lx := enc_len x
  have ox : (enc x).all AV.one = true := by cases x; rfl
  simp only [objW, enc, u32s, strs, encs, List.map_nil, List.map_cons, List.length_nil, List.length_cons, Nat.zero_add, Nat.reduceAdd, List.append_nil]
  have px : purs (enc x) = true := enc_pur x
  generalize enc x = X at *
  have xc : cut X 0 7 = X := by rw [cut, List.drop_zero, List.take_of_length_le (by omega)]
  refine Pc_of (Gf_enter (C := C3 G) Tryz.func82 rfl ok82 (Nat.le_of_ble_eq_true rfl) ?_)
  simp only [Tryz.f82, Option.getD_some]
  repeat' first | refine w_op rfl rfl ?_ | refine x_p rfl ?_ | refine w_sr ?_ | refine st_nil ?_ | refine w_seq ?_ | refine st_region ?_ | refine st_block ?_ | refine w_cond ?_ | refine b_t ?_ | refine b_f ?_ | refine st_skip ?_ | refine st_exit ?_ | refine st_ret ?_ | refine st_onNormN ?_ | refine st_onNormE ?_ | refine st_onNormR ?_ | refine st_onExitN ?_ | refine st_onExitR ?_ | refine st_onExitS ?_ | refine st_onExitO (by decide) ?_ | refine g_t ?_ | refine g_f rfl ?_ | refine o_op rfl ?_ | refine w_wr ?_ | refine w_wn ?_ | refine d_c rfl ?_ | refine d_on rfl ?_ | refine d_op rfl ?_ | refine d_y ?_ | refine d_gd rfl ?_ | refine d_t ?_ | refine d_f ?_ | refine d_nil ?_ | refine w_dg rfl ?_ | refine d_mid ?_ | refine d_mj ?_ | refine d_e ?_ | refine n_0 rfl ?_ | refine d_n ?_ | refine k_e rfl rfl rfl (fc115n G _ _) ?_ | refine d_m (by omega) ?_ | refine k_e rfl rfl rfl (fc115e G _ _) ?_ | refine k_e rfl rfl rfl (fc116n G _ _) ?_ | refine k_e rfl rfl rfl (fc116e G _ _) ?_ | refine k_e rfl rfl rfl (fc139n G _ _ _ _ rfl (by omega)) ?_ | refine k_e rfl rfl rfl (fc139e G _ _ _ _ _ rfl rfl (by omega) (by omega)) ?_ | refine k_e rfl rfl rfl (fc140n G _ _ _ _ rfl rfl (by omega)) ?_ | refine k_e rfl rfl rfl (fc140e G _ _ _ _ _ rfl rfl rfl (by omega) (by omega)) ?_ | refine k_o rfl rfl rfl ?_ | refine k_z rfl ?_ | refine z_f rfl rfl (h138) rfl ?_ | refine z_g rfl rfl (h138) rfl ?_ | refine z_of rfl rfl (h138) rfl ?_ | refine z_og rfl rfl (h138) rfl ?_ | refine d_m (Nat.le_refl _) ?_ | refine w_gd rfl ?_ | ((first | refine zE1 ?_ | refine w_cl rfl rfl ?_ | refine o_cl rfl ?_ | refine d_cl rfl ?_); (conv => arg 1; try simp only [go_sem, Nat.reduceEqDiff, reduceIte, Nat.reduceAdd, Nat.reduceLeDiff, Nat.reduceMul, Int.reduceEq, Int.reduceLT, Int.reduceLE, Int.reduceNeg, Int.reduceAdd, Int.reduceSub, Nat.reduceLT, Nat.reduceBEq, Nat.reduceSub, Nat.reducePow, h138, lx, ox, xc, rep, List.range'_succ, rootss, AV.roots]); first | refine zE3 ?_ | refine zE2 ?_ | refine zE4 ?_ | refine zE5 ?_ | refine zE6 ?_ | refine zE7 ?_ | refine zE8 ?_) | (refine w_u true ?_; (conv => arg 1; reduce); refine zR1 ?_) | (refine b_s (fun hb => ?_) (fun hb => ?_) <;> ((try simp only [hn1, hn2, hn3, hn4] at hb); first | (exfalso; omega) | skip)) | (first | refine g_s (fun hb => ?_) (fun hb => ?_) | refine d_s (fun hb => ?_) (fun hb => ?_)) <;> ((try simp only [hn1, hn2] at hb); rw [hb]; try simp only [hn3, hn4] at hb)
  simp only [one1]
  rw [frz_a]
  simp only [mapF, frz_s, frz_n, frz_l]
  rw [frz_w (b := 9) (es := 7) (fz := false) (cs := X) ?a1 ?a2 ?a3, frz_w (b := 7) (es := 1) (fz := false) (cs := [.sc (.string s)]) ?a4 ?a5 ?a6]
  · rfl
  case a1 => rfl
  case a2 => exact lx
  case a3 => exact px
  case a4 => rfl
  case a5 => rfl
  case a6 => rfl
set_option maxHeartbeats 8000000 in
set_option maxRecDepth 100000 in
theorem pc82en (G : Nat → Option (List AV)) (s : ByteArray) (x : JV) :
    Pc (C3 G) 82 [.agg [.sc (.int .i64 6), .sc (.bool false), .psl [] 0, .sc (.int .i64 0), .sc (.string ⟨#[]⟩), .nilS, .emp], .sc (.string s), .agg (enc x)] (.agg (enc (objW [x] [s]))) := by
  have h138 : orcL G 138 [.psl [] 0, .sc (.string s)] = some (.tup [.sc (.int .i64 ((0 : Nat) : Int)), .sc (.bool false)]) := orcL_of (pc138 G [] s (by simp) (by simp))
  have lx := enc_len x
  have ox : (enc x).all AV.one = true := by cases x; rfl
  simp only [objW, enc, u32s, strs, encs, List.map_nil, List.map_cons, List.length_nil, List.length_cons, Nat.zero_add, Nat.reduceAdd, List.append_nil]
  have px : purs (enc x) = true := enc_pur x
  generalize enc x = X at *
  have xc : cut X 0 7 = X := by rw [cut, List.drop_zero, List.take_of_length_le (by omega)]
  refine Pc_of (Gf_enter (C := C3 G) Tryz.func82 rfl ok82 (Nat.le_of_ble_eq_true rfl) ?_)
  simp only [Tryz.f82, Option.getD_some]
  repeat' first | refine w_op rfl rfl ?_ | refine x_p rfl ?_ | refine w_sr ?_ | refine st_nil ?_ | refine w_seq ?_ | refine st_region ?_ | refine st_block ?_ | refine w_cond ?_ | refine b_t ?_ | refine b_f ?_ | refine st_skip ?_ | refine st_exit ?_ | refine st_ret ?_ | refine st_onNormN ?_ | refine st_onNormE ?_ | refine st_onNormR ?_ | refine st_onExitN ?_ | refine st_onExitR ?_ | refine st_onExitS ?_ | refine st_onExitO (by decide) ?_ | refine g_t ?_ | refine g_f rfl ?_ | refine o_op rfl ?_ | refine w_wr ?_ | refine w_wn ?_ | refine d_c rfl ?_ | refine d_on rfl ?_ | refine d_op rfl ?_ | refine d_y ?_ | refine d_gd rfl ?_ | refine d_t ?_ | refine d_f ?_ | refine d_nil ?_ | refine w_dg rfl ?_ | refine d_mid ?_ | refine d_mj ?_ | refine d_e ?_ | refine n_0 rfl ?_ | refine d_n ?_ | refine k_e rfl rfl rfl (fc115n G _ _) ?_ | refine d_m (by omega) ?_ | refine k_e rfl rfl rfl (fc115e G _ _) ?_ | refine k_e rfl rfl rfl (fc116n G _ _) ?_ | refine k_e rfl rfl rfl (fc116e G _ _) ?_ | refine k_e rfl rfl rfl (fc139n G _ _ _ _ rfl (by omega)) ?_ | refine k_e rfl rfl rfl (fc139e G _ _ _ _ _ rfl rfl (by omega) (by omega)) ?_ | refine k_e rfl rfl rfl (fc140n G _ _ _ _ rfl rfl (by omega)) ?_ | refine k_e rfl rfl rfl (fc140e G _ _ _ _ _ rfl rfl rfl (by omega) (by omega)) ?_ | refine k_o rfl rfl rfl ?_ | refine k_z rfl ?_ | refine z_f rfl rfl (h138) rfl ?_ | refine z_g rfl rfl (h138) rfl ?_ | refine z_of rfl rfl (h138) rfl ?_ | refine z_og rfl rfl (h138) rfl ?_ | refine d_m (Nat.le_refl _) ?_ | refine w_gd rfl ?_ | ((first | refine zE1 ?_ | refine w_cl rfl rfl ?_ | refine o_cl rfl ?_ | refine d_cl rfl ?_); (conv => arg 1; try simp only [go_sem, Nat.reduceEqDiff, reduceIte, Nat.reduceAdd, Nat.reduceLeDiff, Nat.reduceMul, Int.reduceEq, Int.reduceLT, Int.reduceLE, Int.reduceNeg, Int.reduceAdd, Int.reduceSub, Nat.reduceLT, Nat.reduceBEq, Nat.reduceSub, Nat.reducePow, h138, lx, ox, xc, rep, List.range'_succ, rootss, AV.roots]); first | refine zE3 ?_ | refine zE2 ?_ | refine zE4 ?_ | refine zE5 ?_ | refine zE6 ?_ | refine zE7 ?_ | refine zE8 ?_) | (refine w_u true ?_; (conv => arg 1; reduce); refine zR1 ?_) | (refine b_s (fun hb => ?_) (fun hb => ?_) <;> ((try simp only [hn1, hn2, hn3, hn4] at hb); first | (exfalso; omega) | skip)) | (first | refine g_s (fun hb => ?_) (fun hb => ?_) | refine d_s (fun hb => ?_) (fun hb => ?_)) <;> ((try simp only [hn1, hn2] at hb); rw [hb]; try simp only [hn3, hn4] at hb)
  simp only [one1]
  rw [frz_a]
  simp only [mapF, frz_s, frz_n, frz_l]
  rw [frz_w (b := 9) (es := 7) (fz := false) (cs := X) ?a1 ?a2 ?a3, frz_w (b := 7) (es := 1) (fz := false) (cs := [.sc (.string s)]) ?a4 ?a5 ?a6]
  · rfl
  case a1 => rfl
  case a2 => exact lx
  case a3 => exact px
  case a4 => rfl
  case a5 => rfl
  case a6 => rfl
set_option maxHeartbeats 8000000 in
set_option maxRecDepth 100000 in
theorem pc82ee (G : Nat → Option (List AV)) (s : ByteArray) (x : JV) :
    Pc (C3 G) 82 [.agg [.sc (.int .i64 6), .sc (.bool false), .psl [] 0, .sc (.int .i64 0), .sc (.string ⟨#[]⟩), .emp, .emp], .sc (.string s), .agg (enc x)] (.agg (enc (objW [x] [s]))) := by
  have h138 : orcL G 138 [.psl [] 0, .sc (.string s)] = some (.tup [.sc (.int .i64 ((0 : Nat) : Int)), .sc (.bool false)]) := orcL_of (pc138 G [] s (by simp) (by simp))
  have lx := enc_len x
  have ox : (enc x).all AV.one = true := by cases x; rfl
  simp only [objW, enc, u32s, strs, encs, List.map_nil, List.map_cons, List.length_nil, List.length_cons, Nat.zero_add, Nat.reduceAdd, List.append_nil]
  have px : purs (enc x) = true := enc_pur x
  generalize enc x = X at *
  have xc : cut X 0 7 = X := by rw [cut, List.drop_zero, List.take_of_length_le (by omega)]
  refine Pc_of (Gf_enter (C := C3 G) Tryz.func82 rfl ok82 (Nat.le_of_ble_eq_true rfl) ?_)
  simp only [Tryz.f82, Option.getD_some]
  repeat' first | refine w_op rfl rfl ?_ | refine x_p rfl ?_ | refine w_sr ?_ | refine st_nil ?_ | refine w_seq ?_ | refine st_region ?_ | refine st_block ?_ | refine w_cond ?_ | refine b_t ?_ | refine b_f ?_ | refine st_skip ?_ | refine st_exit ?_ | refine st_ret ?_ | refine st_onNormN ?_ | refine st_onNormE ?_ | refine st_onNormR ?_ | refine st_onExitN ?_ | refine st_onExitR ?_ | refine st_onExitS ?_ | refine st_onExitO (by decide) ?_ | refine g_t ?_ | refine g_f rfl ?_ | refine o_op rfl ?_ | refine w_wr ?_ | refine w_wn ?_ | refine d_c rfl ?_ | refine d_on rfl ?_ | refine d_op rfl ?_ | refine d_y ?_ | refine d_gd rfl ?_ | refine d_t ?_ | refine d_f ?_ | refine d_nil ?_ | refine w_dg rfl ?_ | refine d_mid ?_ | refine d_mj ?_ | refine d_e ?_ | refine n_0 rfl ?_ | refine d_n ?_ | refine k_e rfl rfl rfl (fc115n G _ _) ?_ | refine d_m (by omega) ?_ | refine k_e rfl rfl rfl (fc115e G _ _) ?_ | refine k_e rfl rfl rfl (fc116n G _ _) ?_ | refine k_e rfl rfl rfl (fc116e G _ _) ?_ | refine k_e rfl rfl rfl (fc139n G _ _ _ _ rfl (by omega)) ?_ | refine k_e rfl rfl rfl (fc139e G _ _ _ _ _ rfl rfl (by omega) (by omega)) ?_ | refine k_e rfl rfl rfl (fc140n G _ _ _ _ rfl rfl (by omega)) ?_ | refine k_e rfl rfl rfl (fc140e G _ _ _ _ _ rfl rfl rfl (by omega) (by omega)) ?_ | refine k_o rfl rfl rfl ?_ | refine k_z rfl ?_ | refine z_f rfl rfl (h138) rfl ?_ | refine z_g rfl rfl (h138) rfl ?_ | refine z_of rfl rfl (h138) rfl ?_ | refine z_og rfl rfl (h138) rfl ?_ | refine d_m (Nat.le_refl _) ?_ | refine w_gd rfl ?_ | ((first | refine zE1 ?_ | refine w_cl rfl rfl ?_ | refine o_cl rfl ?_ | refine d_cl rfl ?_); (conv => arg 1; try simp only [go_sem, Nat.reduceEqDiff, reduceIte, Nat.reduceAdd, Nat.reduceLeDiff, Nat.reduceMul, Int.reduceEq, Int.reduceLT, Int.reduceLE, Int.reduceNeg, Int.reduceAdd, Int.reduceSub, Nat.reduceLT, Nat.reduceBEq, Nat.reduceSub, Nat.reducePow, h138, lx, ox, xc, rep, List.range'_succ, rootss, AV.roots]); first | refine zE3 ?_ | refine zE2 ?_ | refine zE4 ?_ | refine zE5 ?_ | refine zE6 ?_ | refine zE7 ?_ | refine zE8 ?_) | (refine w_u true ?_; (conv => arg 1; reduce); refine zR1 ?_) | (refine b_s (fun hb => ?_) (fun hb => ?_) <;> ((try simp only [hn1, hn2, hn3, hn4] at hb); first | (exfalso; omega) | skip)) | (first | refine g_s (fun hb => ?_) (fun hb => ?_) | refine d_s (fun hb => ?_) (fun hb => ?_)) <;> ((try simp only [hn1, hn2] at hb); rw [hb]; try simp only [hn3, hn4] at hb)
  simp only [one1]
  rw [frz_a]
  simp only [mapF, frz_s, frz_n, frz_l]
  rw [frz_w (b := 11) (es := 7) (fz := false) (cs := X) ?a1 ?a2 ?a3, frz_w (b := 9) (es := 1) (fz := false) (cs := [.sc (.string s)]) ?a4 ?a5 ?a6]
  · rfl
  case a1 => rfl
  case a2 => exact lx
  case a3 => exact px
  case a4 => rfl
  case a5 => rfl
  case a6 => rfl
end Go.Proofs.Bv
