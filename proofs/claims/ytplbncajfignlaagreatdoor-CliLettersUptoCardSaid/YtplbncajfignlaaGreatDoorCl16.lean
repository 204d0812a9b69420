/-
  A part of the proof of CliLettersUptoCardSaid: CkRefV, CkRefV1, CkRefV2, CkRefV3, CkRefV4, CkRefW, CkC6, CkSameO, CkWords, CkLaw5, CkWords2.
  Conditions: those that each part names.
-/
import Derived.Test.YtplbncajfignlaaGreatDoorCl15
import Derived.Lib.Strings
set_option linter.unusedSimpArgs false
set_option linter.unusedVariables false
namespace Go.Proofs.Bv
open Go
theorem cmp_bytes (s : ByteArray) (l : List Nat) (hl : ∀ d ∈ l, d < 256) (k : Nat) (hk : k ≤ s.size) : ((⟨(l.map UInt8.ofNat).toArray⟩ : ByteArray).toList == (s.extract 0 k).toList) = decide (l = (List.range k).map (bAt s)) := by
  rw [Lib.toList_data, Lib.toList_data]
  have e1 : (s.extract 0 k).data.toList = ((List.range k).map (bAt s)).map UInt8.ofNat := by
    apply List.ext_getElem?
    intro i
    simp only [ByteArray.data_extract, Array.toList_extract, List.extract_eq_take_drop, List.drop_zero, Nat.sub_zero, List.map_map]
    rcases Nat.lt_or_ge i k with h | h
    · have h' : i < s.data.size := Nat.lt_of_lt_of_le h hk
      rw [List.getElem?_take, if_pos h, List.getElem?_map, List.getElem?_range h, Array.getElem?_toList, Array.getElem?_eq_getElem h']
      simp only [Option.map_some, Function.comp, bAt, ByteArray.get!]
      rw [getElem!_pos s.data i h']
      simp
    · rw [List.getElem?_eq_none (by simp; omega), List.getElem?_eq_none (by simp; omega)]
  rw [e1]
  show ((l.map UInt8.ofNat) == _) = _
  have inj : ∀ {a b : List Nat}, (∀ d ∈ a, d < 256) → (∀ d ∈ b, d < 256) → (a.map UInt8.ofNat = b.map UInt8.ofNat ↔ a = b) := by
    intro a
    induction a with
    | nil => intro b _ _; cases b <;> simp
    | cons x a ih =>
      intro b ha hb
      cases b with
      | nil => simp
      | cons y b =>
        simp only [List.map_cons, List.cons.injEq]
        rw [ih (fun d hd => ha d (List.mem_cons_of_mem _ hd)) (fun d hd => hb d (List.mem_cons_of_mem _ hd))]
        have hx := ha x (by simp)
        have hy := hb y (by simp)
        constructor
        · rintro ⟨h1, h2⟩
          refine ⟨?_, h2⟩
          have := congrArg UInt8.toNat h1
          simpa [Nat.mod_eq_of_lt hx, Nat.mod_eq_of_lt hy] using this
        · rintro ⟨rfl, rfl⟩
          exact ⟨rfl, rfl⟩
  rw [Bool.eq_iff_iff, beq_iff_eq, decide_eq_true_eq, inj hl (by intro d hd; simp only [List.mem_map] at hd; obtain ⟨i, _, rfl⟩ := hd; exact bAt_lt s i)]
end Go.Proofs.Bv
namespace Go.Proofs.Bv
open Go
set_option maxHeartbeats 8000000 in
set_option maxRecDepth 100000 in
theorem pc42_1 (G : Nat → Option (List AV)) (s : ByteArray) (c4 : ¬ 240 ≤ bAt s 0) (c3 : ¬ 224 ≤ bAt s 0) (c2 : ¬ 192 ≤ bAt s 0) (hz : ¬ s.size = 0) (hn : s.size ≤ 140737488355328) : Pc (Cf G) 42 [.sc (.string s)] (.tup [.sc (.int .i64 (firstS s).1), .sc (.int .i64 (firstS s).2)]) := by
  unfold firstS firstN
  have hz' : ¬ (s.size : Int) = 0 := by omega
  rw [if_neg hz]
  have B : ∀ i, bAt s i < 256 := bAt_lt s
  have Q : ∀ i, i < s.size → s.data[i]? = some (s.get! i) := fun i hi => by
    have h' : i < s.data.size := hi
    rw [Array.getElem?_eq_getElem h']
    simp only [ByteArray.get!]
    rw [getElem!_pos s.data i h']
  have W : ∀ i, IntKind.i64.wrap (((s.get! i).toNat : Nat) : Int) = ((bAt s i : Nat) : Int) := fun i => by
    have := B i
    unfold bAt at this ⊢
    rw [i64 (by omega) (by omega)]
  have R : ∀ i, ((bAt s i : Nat) : Int).tmod 64 = ((bAt s i % 64 : Nat) : Int) := fun i => by rw [Int.tmod_eq_emod_of_nonneg (by omega)]; omega
  have M : ∀ a : Nat, a ≤ 4294967296 → IntKind.i64.wrap ((a : Int) * 64) = ((a * 64 : Nat) : Int) := fun a ha => by rw [i64 (by omega) (by omega)]; omega
  have A : ∀ a i : Nat, a ≤ 4294967296000 → IntKind.i64.wrap ((a : Int) + ((bAt s i % 64 : Nat) : Int)) = ((a + bAt s i % 64 : Nat) : Int) := fun a i ha => by rw [i64 (by omega) (by omega)]; omega
  have w2 : IntKind.i64.wrap 2 = 2 := i64 (by omega) (by omega)
  have w3 : IntKind.i64.wrap 3 = 3 := i64 (by omega) (by omega)
  have w4 : IntKind.i64.wrap 4 = 4 := i64 (by omega) (by omega)
  have n4 : ∀ k, asNat (.sc (.int k 4)) = some 4 := fun k => rfl
  have q0 := Q 0 (by omega)
  have b0 := B 0
  have b1 := B 1
  have b2 := B 2
  have b3 := B 3
  rw [if_neg c4, if_neg c3, if_neg c2]
  have c4 : ¬ (240 : Int) ≤ ((bAt s 0 : Nat) : Int) := by omega
  have c3 : ¬ (224 : Int) ≤ ((bAt s 0 : Nat) : Int) := by omega
  have c2 : ¬ (192 : Int) ≤ ((bAt s 0 : Nat) : Int) := by omega
  have s0 : (0 : Int) = 0 := rfl
  · have hs' : ¬ (s.size : Int) < 1 := by omega
    have hbd : bnds s.size none (some (.sc (.int .i64 1))) = some (0, 1) := bnds_hi (k := 1) (by omega)
    have hcmp : mayN (bAt s 0) = true → ((⟨((octN (bAt s 0)).map UInt8.ofNat).toArray⟩ : ByteArray).toList == (s.extract 0 1).toList) = decide (octN (bAt s 0) = [bAt s 0]) := fun hm => cmp_bytes s _ (octN_lt _ ((mayN_iff _).1 hm).1) 1 (by omega)
    have h125 := pc80 G (bAt s 0)
    cases hm : mayN (bAt s 0) with
    | false =>
      rw [hm] at h125
      refine Pc_of (Gf_enter (C := Cf G) Tryz.func42 rfl ok42 (Nat.le_of_ble_eq_true rfl) ?_)
      simp only [Tryz.f42, Option.getD_some]
      repeat' first | refine w_op rfl rfl ?_ | refine x_p rfl ?_ | refine w_sr ?_ | refine st_nil ?_ | refine w_seq ?_ | refine st_region ?_ | refine st_block ?_ | refine w_cond ?_ | refine b_t ?_ | refine b_f ?_ | refine st_skip ?_ | refine st_exit ?_ | refine st_ret ?_ | refine st_onNormN ?_ | refine st_onNormE ?_ | refine st_onNormR ?_ | refine st_onExitN ?_ | refine st_onExitR ?_ | refine st_onExitS ?_ | refine st_onExitO (by decide) ?_ | refine g_t ?_ | refine g_f rfl ?_ | refine o_op rfl ?_ | refine w_wr ?_ | refine w_wn ?_ | refine d_c rfl ?_ | refine d_on rfl ?_ | refine d_op rfl ?_ | refine d_y ?_ | refine d_gd rfl ?_ | refine d_t ?_ | refine d_f ?_ | refine d_nil ?_ | refine w_dg rfl ?_ | refine d_mid ?_ | refine d_mj ?_ | refine d_e ?_ | refine w_gd rfl ?_ | ((first | refine zE1 ?_); (conv => arg 1; try simp only [go_sem, Nat.reduceEqDiff, reduceIte, Nat.reduceAdd, Nat.reduceLeDiff, Nat.reduceMul, Int.reduceEq, Int.reduceLT, Int.reduceLE, Int.reduceNeg, Int.reduceAdd, Int.reduceSub, Nat.reduceLT, Nat.reduceBEq, Nat.reduceSub, Nat.reducePow, hz', q0, W, R, c4, c3, c2, s0, hs', w2, w3, w4]); first | refine zE3 ?_ | refine zE2 ?_ | refine zE4 ?_ | refine zE5 ?_ | refine zE6 ?_ | refine zE7 ?_ | refine zE8 ?_) | (refine w_u true ?_; (conv => arg 1; reduce); refine zR1 ?_) | (refine b_s (fun hb => ?_) (fun hb => ?_) <;> ((try simp only [hn1, hn2, hn3, hn4] at hb); first | (exfalso; omega) | skip)) | (first | refine g_s (fun hb => ?_) (fun hb => ?_) | refine d_s (fun hb => ?_) (fun hb => ?_)) <;> ((try simp only [hn1, hn2] at hb); rw [hb]; try simp only [hn3, hn4] at hb)
      refine st_loop ?_
      repeat' first | refine w_op rfl rfl ?_ | refine x_p rfl ?_ | refine w_sr ?_ | refine st_nil ?_ | refine w_seq ?_ | refine st_region ?_ | refine st_block ?_ | refine w_cond ?_ | refine b_t ?_ | refine b_f ?_ | refine st_skip ?_ | refine st_exit ?_ | refine st_ret ?_ | refine st_onNormN ?_ | refine st_onNormE ?_ | refine st_onNormR ?_ | refine st_onExitN ?_ | refine st_onExitR ?_ | refine st_onExitS ?_ | refine st_onExitO (by decide) ?_ | refine g_t ?_ | refine g_f rfl ?_ | refine o_op rfl ?_ | refine w_wr ?_ | refine w_wn ?_ | refine d_c rfl ?_ | refine d_on rfl ?_ | refine d_op rfl ?_ | refine d_y ?_ | refine d_gd rfl ?_ | refine d_t ?_ | refine d_f ?_ | refine d_nil ?_ | refine w_dg rfl ?_ | refine d_mid ?_ | refine d_mj ?_ | refine d_e ?_ | refine n_0 rfl ?_ | refine d_n ?_ | refine k_p rfl rfl rfl rfl (h125) ?_ | refine w_gd rfl ?_ | ((first | refine zE1 ?_ | refine w_cl rfl rfl ?_ | refine o_cl rfl ?_ | refine d_cl rfl ?_); (conv => arg 1; try simp only [go_sem, Nat.reduceEqDiff, reduceIte, Nat.reduceAdd, Nat.reduceLeDiff, Nat.reduceMul, Int.reduceEq, Int.reduceLT, Int.reduceLE, Int.reduceNeg, Int.reduceAdd, Int.reduceSub, Nat.reduceLT, Nat.reduceBEq, Nat.reduceSub, Nat.reducePow, hz', W, R, c4, c3, c2, s0, hs', w2, w3, w4, hbd, n4, Option.map_none, Option.isSome_none]); first | refine zE3 ?_ | refine zE2 ?_ | refine zE4 ?_ | refine zE5 ?_ | refine zE6 ?_ | refine zE7 ?_ | refine zE8 ?_) | (refine w_u true ?_; (conv => arg 1; reduce); refine zR1 ?_) | (refine b_s (fun hb => ?_) (fun hb => ?_) <;> ((try simp only [hn1, hn2, hn3, hn4] at hb); first | (exfalso; omega) | skip)) | (first | refine g_s (fun hb => ?_) (fun hb => ?_) | refine d_s (fun hb => ?_) (fun hb => ?_)) <;> ((try simp only [hn1, hn2] at hb); rw [hb]; try simp only [hn3, hn4] at hb)
      all_goals simp only [one1, frz_t, mapF, frz_s, Option.map_some, List.append_nil, finN, hm]
      all_goals (rw [if_neg (fun h => absurd h.1 (by decide))]; rfl)
    | true =>
      rw [hm] at h125
      have hle := ((mayN_iff (bAt s 0)).1 hm).1
      have h126 := pc81 G (bAt s 0) hle
      have hby := bytesOf_b8s (octN_lt (bAt s 0) hle)
      have hbl : (b8s (octN (bAt s 0))).length = (octN (bAt s 0)).length := by simp [b8s]
      have hcmp := hcmp hm
      refine Pc_of (Gf_enter (C := Cf G) Tryz.func42 rfl ok42 (Nat.le_of_ble_eq_true rfl) ?_)
      simp only [Tryz.f42, Option.getD_some]
      repeat' first | refine w_op rfl rfl ?_ | refine x_p rfl ?_ | refine w_sr ?_ | refine st_nil ?_ | refine w_seq ?_ | refine st_region ?_ | refine st_block ?_ | refine w_cond ?_ | refine b_t ?_ | refine b_f ?_ | refine st_skip ?_ | refine st_exit ?_ | refine st_ret ?_ | refine st_onNormN ?_ | refine st_onNormE ?_ | refine st_onNormR ?_ | refine st_onExitN ?_ | refine st_onExitR ?_ | refine st_onExitS ?_ | refine st_onExitO (by decide) ?_ | refine g_t ?_ | refine g_f rfl ?_ | refine o_op rfl ?_ | refine w_wr ?_ | refine w_wn ?_ | refine d_c rfl ?_ | refine d_on rfl ?_ | refine d_op rfl ?_ | refine d_y ?_ | refine d_gd rfl ?_ | refine d_t ?_ | refine d_f ?_ | refine d_nil ?_ | refine w_dg rfl ?_ | refine d_mid ?_ | refine d_mj ?_ | refine d_e ?_ | refine w_gd rfl ?_ | ((first | refine zE1 ?_); (conv => arg 1; try simp only [go_sem, Nat.reduceEqDiff, reduceIte, Nat.reduceAdd, Nat.reduceLeDiff, Nat.reduceMul, Int.reduceEq, Int.reduceLT, Int.reduceLE, Int.reduceNeg, Int.reduceAdd, Int.reduceSub, Nat.reduceLT, Nat.reduceBEq, Nat.reduceSub, Nat.reducePow, hz', q0, W, R, c4, c3, c2, s0, hs', w2, w3, w4]); first | refine zE3 ?_ | refine zE2 ?_ | refine zE4 ?_ | refine zE5 ?_ | refine zE6 ?_ | refine zE7 ?_ | refine zE8 ?_) | (refine w_u true ?_; (conv => arg 1; reduce); refine zR1 ?_) | (refine b_s (fun hb => ?_) (fun hb => ?_) <;> ((try simp only [hn1, hn2, hn3, hn4] at hb); first | (exfalso; omega) | skip)) | (first | refine g_s (fun hb => ?_) (fun hb => ?_) | refine d_s (fun hb => ?_) (fun hb => ?_)) <;> ((try simp only [hn1, hn2] at hb); rw [hb]; try simp only [hn3, hn4] at hb)
      refine st_loop ?_
      repeat' first | refine w_op rfl rfl ?_ | refine x_p rfl ?_ | refine w_sr ?_ | refine st_nil ?_ | refine w_seq ?_ | refine st_region ?_ | refine st_block ?_ | refine w_cond ?_ | refine b_t ?_ | refine b_f ?_ | refine st_skip ?_ | refine st_exit ?_ | refine st_ret ?_ | refine st_onNormN ?_ | refine st_onNormE ?_ | refine st_onNormR ?_ | refine st_onExitN ?_ | refine st_onExitR ?_ | refine st_onExitS ?_ | refine st_onExitO (by decide) ?_ | refine g_t ?_ | refine g_f rfl ?_ | refine o_op rfl ?_ | refine w_wr ?_ | refine w_wn ?_ | refine d_c rfl ?_ | refine d_on rfl ?_ | refine d_op rfl ?_ | refine d_y ?_ | refine d_gd rfl ?_ | refine d_t ?_ | refine d_f ?_ | refine d_nil ?_ | refine w_dg rfl ?_ | refine d_mid ?_ | refine d_mj ?_ | refine d_e ?_ | refine n_0 rfl ?_ | refine d_n ?_ | refine k_p rfl rfl rfl rfl (h125) ?_ | refine k_p rfl rfl rfl rfl (h126) ?_ | refine w_gd rfl ?_ | ((first | refine zE1 ?_ | refine w_cl rfl rfl ?_ | refine o_cl rfl ?_ | refine d_cl rfl ?_); (conv => arg 1; try simp only [go_sem, Nat.reduceEqDiff, reduceIte, Nat.reduceAdd, Nat.reduceLeDiff, Nat.reduceMul, Int.reduceEq, Int.reduceLT, Int.reduceLE, Int.reduceNeg, Int.reduceAdd, Int.reduceSub, Nat.reduceLT, Nat.reduceBEq, Nat.reduceSub, Nat.reducePow, hz', W, R, c4, c3, c2, s0, hs', w2, w3, w4, readSl, hbl, hby, hcmp, hbd, n4, Option.map_none, Option.isSome_none]); first | refine zE3 ?_ | refine zE2 ?_ | refine zE4 ?_ | refine zE5 ?_ | refine zE6 ?_ | refine zE7 ?_ | refine zE8 ?_) | (refine w_u true ?_; (conv => arg 1; reduce); refine zR1 ?_) | (refine b_s (fun hb => ?_) (fun hb => ?_) <;> ((try simp only [hn1, hn2, hn3, hn4] at hb); first | (exfalso; omega) | skip)) | (first | refine g_s (fun hb => ?_) (fun hb => ?_) | refine d_s (fun hb => ?_) (fun hb => ?_)) <;> ((try simp only [hn1, hn2] at hb); rw [hb]; try simp only [hn3, hn4] at hb)
      all_goals simp only [one1, frz_t, mapF, frz_s, Option.map_some, List.append_nil, finN, hm]
      all_goals first | (rw [if_pos ⟨trivial, hb⟩]; rfl) | (rw [if_neg (fun h => hb h.2)]; rfl)
end Go.Proofs.Bv
namespace Go.Proofs.Bv
open Go
set_option maxHeartbeats 8000000 in
set_option maxRecDepth 100000 in
theorem pc42_2 (G : Nat → Option (List AV)) (s : ByteArray) (c4 : ¬ 240 ≤ bAt s 0) (c3 : ¬ 224 ≤ bAt s 0) (c2 : 192 ≤ bAt s 0) (hz : ¬ s.size = 0) (hn : s.size ≤ 140737488355328) : Pc (Cf G) 42 [.sc (.string s)] (.tup [.sc (.int .i64 (firstS s).1), .sc (.int .i64 (firstS s).2)]) := by
  unfold firstS firstN
  have hz' : ¬ (s.size : Int) = 0 := by omega
  rw [if_neg hz]
  have B : ∀ i, bAt s i < 256 := bAt_lt s
  have Q : ∀ i, i < s.size → s.data[i]? = some (s.get! i) := fun i hi => by
    have h' : i < s.data.size := hi
    rw [Array.getElem?_eq_getElem h']
    simp only [ByteArray.get!]
    rw [getElem!_pos s.data i h']
  have W : ∀ i, IntKind.i64.wrap (((s.get! i).toNat : Nat) : Int) = ((bAt s i : Nat) : Int) := fun i => by
    have := B i
    unfold bAt at this ⊢
    rw [i64 (by omega) (by omega)]
  have R : ∀ i, ((bAt s i : Nat) : Int).tmod 64 = ((bAt s i % 64 : Nat) : Int) := fun i => by rw [Int.tmod_eq_emod_of_nonneg (by omega)]; omega
  have M : ∀ a : Nat, a ≤ 4294967296 → IntKind.i64.wrap ((a : Int) * 64) = ((a * 64 : Nat) : Int) := fun a ha => by rw [i64 (by omega) (by omega)]; omega
  have A : ∀ a i : Nat, a ≤ 4294967296000 → IntKind.i64.wrap ((a : Int) + ((bAt s i % 64 : Nat) : Int)) = ((a + bAt s i % 64 : Nat) : Int) := fun a i ha => by rw [i64 (by omega) (by omega)]; omega
  have w2 : IntKind.i64.wrap 2 = 2 := i64 (by omega) (by omega)
  have w3 : IntKind.i64.wrap 3 = 3 := i64 (by omega) (by omega)
  have w4 : IntKind.i64.wrap 4 = 4 := i64 (by omega) (by omega)
  have n4 : ∀ k, asNat (.sc (.int k 4)) = some 4 := fun k => rfl
  have q0 := Q 0 (by omega)
  have b0 := B 0
  have b1 := B 1
  have b2 := B 2
  have b3 := B 3
  rw [if_neg c4, if_neg c3, if_pos c2]
  have c4 : ¬ (240 : Int) ≤ ((bAt s 0 : Nat) : Int) := by omega
  have c3 : ¬ (224 : Int) ≤ ((bAt s 0 : Nat) : Int) := by omega
  have c2 : (192 : Int) ≤ ((bAt s 0 : Nat) : Int) := by omega
  have s0 : IntKind.i64.wrap (((bAt s 0 : Nat) : Int) - 192) = ((bAt s 0 - 192 : Nat) : Int) := by rw [i64 (by omega) (by omega)]; omega
  by_cases hs : s.size < 2
  · have hs' : (s.size : Int) < 2 := by omega
    rw [if_pos hs]
    refine Pc_of (Gf_enter (C := Cf G) Tryz.func42 rfl ok42 (Nat.le_of_ble_eq_true rfl) ?_)
    simp only [Tryz.f42, Option.getD_some]
    repeat' first | refine w_op rfl rfl ?_ | refine x_p rfl ?_ | refine w_sr ?_ | refine st_nil ?_ | refine w_seq ?_ | refine st_region ?_ | refine st_block ?_ | refine w_cond ?_ | refine b_t ?_ | refine b_f ?_ | refine st_skip ?_ | refine st_exit ?_ | refine st_ret ?_ | refine st_onNormN ?_ | refine st_onNormE ?_ | refine st_onNormR ?_ | refine st_onExitN ?_ | refine st_onExitR ?_ | refine st_onExitS ?_ | refine st_onExitO (by decide) ?_ | refine g_t ?_ | refine g_f rfl ?_ | refine o_op rfl ?_ | refine w_wr ?_ | refine w_wn ?_ | refine d_c rfl ?_ | refine d_on rfl ?_ | refine d_op rfl ?_ | refine d_y ?_ | refine d_gd rfl ?_ | refine d_t ?_ | refine d_f ?_ | refine d_nil ?_ | refine w_dg rfl ?_ | refine d_mid ?_ | refine d_mj ?_ | refine d_e ?_ | refine w_gd rfl ?_ | ((first | refine zE1 ?_); (conv => arg 1; try simp only [go_sem, Nat.reduceEqDiff, reduceIte, Nat.reduceAdd, Nat.reduceLeDiff, Nat.reduceMul, Int.reduceEq, Int.reduceLT, Int.reduceLE, Int.reduceNeg, Int.reduceAdd, Int.reduceSub, Nat.reduceLT, Nat.reduceBEq, Nat.reduceSub, Nat.reducePow, hz', q0, W, c4, c3, c2, s0, hs']); first | refine zE3 ?_ | refine zE2 ?_ | refine zE4 ?_ | refine zE5 ?_ | refine zE6 ?_ | refine zE7 ?_ | refine zE8 ?_) | (refine w_u true ?_; (conv => arg 1; reduce); refine zR1 ?_) | (refine b_s (fun hb => ?_) (fun hb => ?_) <;> ((try simp only [hn1, hn2, hn3, hn4] at hb); first | (exfalso; omega) | skip)) | (first | refine g_s (fun hb => ?_) (fun hb => ?_) | refine d_s (fun hb => ?_) (fun hb => ?_)) <;> ((try simp only [hn1, hn2] at hb); rw [hb]; try simp only [hn3, hn4] at hb)
    rfl
  · have hs' : ¬ (s.size : Int) < 2 := by omega
    rw [if_neg hs]
    have q1 := Q 1 (by omega)
    have m1 := M (bAt s 0 - 192) (by omega)
    have a1 := A ((bAt s 0 - 192) * 64) 1 (by omega)
    have hbd : bnds s.size none (some (.sc (.int .i64 2))) = some (0, 2) := by
      simp only [bnds, asNat]
      rw [if_pos (by omega)]
      simp
      omega
    have hcmp : mayN ((bAt s 0 - 192) * 64 + bAt s 1 % 64) = true → ((⟨((octN ((bAt s 0 - 192) * 64 + bAt s 1 % 64)).map UInt8.ofNat).toArray⟩ : ByteArray).toList == (s.extract 0 2).toList) = decide (octN ((bAt s 0 - 192) * 64 + bAt s 1 % 64) = [bAt s 0, bAt s 1]) := fun hm => cmp_bytes s _ (octN_lt _ ((mayN_iff _).1 hm).1) 2 (by omega)
    generalize hv : ((bAt s 0 - 192) * 64 + bAt s 1 % 64) = v at *
    have h125 := pc80 G v
    cases hm : mayN v with
    | false =>
      rw [hm] at h125
      refine Pc_of (Gf_enter (C := Cf G) Tryz.func42 rfl ok42 (Nat.le_of_ble_eq_true rfl) ?_)
      simp only [Tryz.f42, Option.getD_some]
      repeat' first | refine w_op rfl rfl ?_ | refine x_p rfl ?_ | refine w_sr ?_ | refine st_nil ?_ | refine w_seq ?_ | refine st_region ?_ | refine st_block ?_ | refine w_cond ?_ | refine b_t ?_ | refine b_f ?_ | refine st_skip ?_ | refine st_exit ?_ | refine st_ret ?_ | refine st_onNormN ?_ | refine st_onNormE ?_ | refine st_onNormR ?_ | refine st_onExitN ?_ | refine st_onExitR ?_ | refine st_onExitS ?_ | refine st_onExitO (by decide) ?_ | refine g_t ?_ | refine g_f rfl ?_ | refine o_op rfl ?_ | refine w_wr ?_ | refine w_wn ?_ | refine d_c rfl ?_ | refine d_on rfl ?_ | refine d_op rfl ?_ | refine d_y ?_ | refine d_gd rfl ?_ | refine d_t ?_ | refine d_f ?_ | refine d_nil ?_ | refine w_dg rfl ?_ | refine d_mid ?_ | refine d_mj ?_ | refine d_e ?_ | refine w_gd rfl ?_ | ((first | refine zE1 ?_); (conv => arg 1; try simp only [go_sem, Nat.reduceEqDiff, reduceIte, Nat.reduceAdd, Nat.reduceLeDiff, Nat.reduceMul, Int.reduceEq, Int.reduceLT, Int.reduceLE, Int.reduceNeg, Int.reduceAdd, Int.reduceSub, Nat.reduceLT, Nat.reduceBEq, Nat.reduceSub, Nat.reducePow, hz', q0, W, R, c4, c3, c2, s0, hs', w2, w3, w4]); first | refine zE3 ?_ | refine zE2 ?_ | refine zE4 ?_ | refine zE5 ?_ | refine zE6 ?_ | refine zE7 ?_ | refine zE8 ?_) | (refine w_u true ?_; (conv => arg 1; reduce); refine zR1 ?_) | (refine b_s (fun hb => ?_) (fun hb => ?_) <;> ((try simp only [hn1, hn2, hn3, hn4] at hb); first | (exfalso; omega) | skip)) | (first | refine g_s (fun hb => ?_) (fun hb => ?_) | refine d_s (fun hb => ?_) (fun hb => ?_)) <;> ((try simp only [hn1, hn2] at hb); rw [hb]; try simp only [hn3, hn4] at hb)
      refine st_loop ?_
      repeat' first | refine w_op rfl rfl ?_ | refine x_p rfl ?_ | refine w_sr ?_ | refine st_nil ?_ | refine w_seq ?_ | refine st_region ?_ | refine st_block ?_ | refine w_cond ?_ | refine b_t ?_ | refine b_f ?_ | refine st_skip ?_ | refine st_exit ?_ | refine st_ret ?_ | refine st_onNormN ?_ | refine st_onNormE ?_ | refine st_onNormR ?_ | refine st_onExitN ?_ | refine st_onExitR ?_ | refine st_onExitS ?_ | refine st_onExitO (by decide) ?_ | refine g_t ?_ | refine g_f rfl ?_ | refine o_op rfl ?_ | refine w_wr ?_ | refine w_wn ?_ | refine d_c rfl ?_ | refine d_on rfl ?_ | refine d_op rfl ?_ | refine d_y ?_ | refine d_gd rfl ?_ | refine d_t ?_ | refine d_f ?_ | refine d_nil ?_ | refine w_dg rfl ?_ | refine d_mid ?_ | refine d_mj ?_ | refine d_e ?_ | refine n_0 rfl ?_ | refine d_n ?_ | refine k_p rfl rfl rfl rfl (h125) ?_ | refine w_gd rfl ?_ | ((first | refine zE1 ?_ | refine w_cl rfl rfl ?_ | refine o_cl rfl ?_ | refine d_cl rfl ?_); (conv => arg 1; try simp only [go_sem, Nat.reduceEqDiff, reduceIte, Nat.reduceAdd, Nat.reduceLeDiff, Nat.reduceMul, Int.reduceEq, Int.reduceLT, Int.reduceLE, Int.reduceNeg, Int.reduceAdd, Int.reduceSub, Nat.reduceLT, Nat.reduceBEq, Nat.reduceSub, Nat.reducePow, hz', W, R, q1, m1, a1, c4, c3, c2, s0, hs', w2, w3, w4, hbd, n4, Option.map_none, Option.isSome_none]); first | refine zE3 ?_ | refine zE2 ?_ | refine zE4 ?_ | refine zE5 ?_ | refine zE6 ?_ | refine zE7 ?_ | refine zE8 ?_) | (refine w_u true ?_; (conv => arg 1; reduce); refine zR1 ?_) | (refine b_s (fun hb => ?_) (fun hb => ?_) <;> ((try simp only [hn1, hn2, hn3, hn4] at hb); first | (exfalso; omega) | skip)) | (first | refine g_s (fun hb => ?_) (fun hb => ?_) | refine d_s (fun hb => ?_) (fun hb => ?_)) <;> ((try simp only [hn1, hn2] at hb); rw [hb]; try simp only [hn3, hn4] at hb)
      refine st_loop ?_
      repeat' first | refine w_op rfl rfl ?_ | refine x_p rfl ?_ | refine w_sr ?_ | refine st_nil ?_ | refine w_seq ?_ | refine st_region ?_ | refine st_block ?_ | refine w_cond ?_ | refine b_t ?_ | refine b_f ?_ | refine st_skip ?_ | refine st_exit ?_ | refine st_ret ?_ | refine st_onNormN ?_ | refine st_onNormE ?_ | refine st_onNormR ?_ | refine st_onExitN ?_ | refine st_onExitR ?_ | refine st_onExitS ?_ | refine st_onExitO (by decide) ?_ | refine g_t ?_ | refine g_f rfl ?_ | refine o_op rfl ?_ | refine w_wr ?_ | refine w_wn ?_ | refine d_c rfl ?_ | refine d_on rfl ?_ | refine d_op rfl ?_ | refine d_y ?_ | refine d_gd rfl ?_ | refine d_t ?_ | refine d_f ?_ | refine d_nil ?_ | refine w_dg rfl ?_ | refine d_mid ?_ | refine d_mj ?_ | refine d_e ?_ | refine n_0 rfl ?_ | refine d_n ?_ | refine k_p rfl rfl rfl rfl (h125) ?_ | refine w_gd rfl ?_ | ((first | refine zE1 ?_ | refine w_cl rfl rfl ?_ | refine o_cl rfl ?_ | refine d_cl rfl ?_); (conv => arg 1; try simp only [go_sem, Nat.reduceEqDiff, reduceIte, Nat.reduceAdd, Nat.reduceLeDiff, Nat.reduceMul, Int.reduceEq, Int.reduceLT, Int.reduceLE, Int.reduceNeg, Int.reduceAdd, Int.reduceSub, Nat.reduceLT, Nat.reduceBEq, Nat.reduceSub, Nat.reducePow, hz', W, R, q1, m1, a1, c4, c3, c2, s0, hs', w2, w3, w4, hbd, n4, Option.map_none, Option.isSome_none]); first | refine zE3 ?_ | refine zE2 ?_ | refine zE4 ?_ | refine zE5 ?_ | refine zE6 ?_ | refine zE7 ?_ | refine zE8 ?_) | (refine w_u true ?_; (conv => arg 1; reduce); refine zR1 ?_) | (refine b_s (fun hb => ?_) (fun hb => ?_) <;> ((try simp only [hn1, hn2, hn3, hn4] at hb); first | (exfalso; omega) | skip)) | (first | refine g_s (fun hb => ?_) (fun hb => ?_) | refine d_s (fun hb => ?_) (fun hb => ?_)) <;> ((try simp only [hn1, hn2] at hb); rw [hb]; try simp only [hn3, hn4] at hb)
      all_goals simp only [one1, frz_t, mapF, frz_s, Option.map_some, List.append_nil, finN, hm, hv]
      all_goals (rw [if_neg (fun h => absurd h.1 (by decide))]; rfl)
    | true =>
      rw [hm] at h125
      have hle := ((mayN_iff v).1 hm).1
      have h126 := pc81 G v hle
      have hby := bytesOf_b8s (octN_lt v hle)
      have hbl : (b8s (octN v)).length = (octN v).length := by simp [b8s]
      have hcmp := hcmp hm
      refine Pc_of (Gf_enter (C := Cf G) Tryz.func42 rfl ok42 (Nat.le_of_ble_eq_true rfl) ?_)
      simp only [Tryz.f42, Option.getD_some]
      repeat' first | refine w_op rfl rfl ?_ | refine x_p rfl ?_ | refine w_sr ?_ | refine st_nil ?_ | refine w_seq ?_ | refine st_region ?_ | refine st_block ?_ | refine w_cond ?_ | refine b_t ?_ | refine b_f ?_ | refine st_skip ?_ | refine st_exit ?_ | refine st_ret ?_ | refine st_onNormN ?_ | refine st_onNormE ?_ | refine st_onNormR ?_ | refine st_onExitN ?_ | refine st_onExitR ?_ | refine st_onExitS ?_ | refine st_onExitO (by decide) ?_ | refine g_t ?_ | refine g_f rfl ?_ | refine o_op rfl ?_ | refine w_wr ?_ | refine w_wn ?_ | refine d_c rfl ?_ | refine d_on rfl ?_ | refine d_op rfl ?_ | refine d_y ?_ | refine d_gd rfl ?_ | refine d_t ?_ | refine d_f ?_ | refine d_nil ?_ | refine w_dg rfl ?_ | refine d_mid ?_ | refine d_mj ?_ | refine d_e ?_ | refine w_gd rfl ?_ | ((first | refine zE1 ?_); (conv => arg 1; try simp only [go_sem, Nat.reduceEqDiff, reduceIte, Nat.reduceAdd, Nat.reduceLeDiff, Nat.reduceMul, Int.reduceEq, Int.reduceLT, Int.reduceLE, Int.reduceNeg, Int.reduceAdd, Int.reduceSub, Nat.reduceLT, Nat.reduceBEq, Nat.reduceSub, Nat.reducePow, hz', q0, W, R, c4, c3, c2, s0, hs', w2, w3, w4]); first | refine zE3 ?_ | refine zE2 ?_ | refine zE4 ?_ | refine zE5 ?_ | refine zE6 ?_ | refine zE7 ?_ | refine zE8 ?_) | (refine w_u true ?_; (conv => arg 1; reduce); refine zR1 ?_) | (refine b_s (fun hb => ?_) (fun hb => ?_) <;> ((try simp only [hn1, hn2, hn3, hn4] at hb); first | (exfalso; omega) | skip)) | (first | refine g_s (fun hb => ?_) (fun hb => ?_) | refine d_s (fun hb => ?_) (fun hb => ?_)) <;> ((try simp only [hn1, hn2] at hb); rw [hb]; try simp only [hn3, hn4] at hb)
      refine st_loop ?_
      repeat' first | refine w_op rfl rfl ?_ | refine x_p rfl ?_ | refine w_sr ?_ | refine st_nil ?_ | refine w_seq ?_ | refine st_region ?_ | refine st_block ?_ | refine w_cond ?_ | refine b_t ?_ | refine b_f ?_ | refine st_skip ?_ | refine st_exit ?_ | refine st_ret ?_ | refine st_onNormN ?_ | refine st_onNormE ?_ | refine st_onNormR ?_ | refine st_onExitN ?_ | refine st_onExitR ?_ | refine st_onExitS ?_ | refine st_onExitO (by decide) ?_ | refine g_t ?_ | refine g_f rfl ?_ | refine o_op rfl ?_ | refine w_wr ?_ | refine w_wn ?_ | refine d_c rfl ?_ | refine d_on rfl ?_ | refine d_op rfl ?_ | refine d_y ?_ | refine d_gd rfl ?_ | refine d_t ?_ | refine d_f ?_ | refine d_nil ?_ | refine w_dg rfl ?_ | refine d_mid ?_ | refine d_mj ?_ | refine d_e ?_ | refine n_0 rfl ?_ | refine d_n ?_ | refine k_p rfl rfl rfl rfl (h125) ?_ | refine k_p rfl rfl rfl rfl (h126) ?_ | refine w_gd rfl ?_ | ((first | refine zE1 ?_ | refine w_cl rfl rfl ?_ | refine o_cl rfl ?_ | refine d_cl rfl ?_); (conv => arg 1; try simp only [go_sem, Nat.reduceEqDiff, reduceIte, Nat.reduceAdd, Nat.reduceLeDiff, Nat.reduceMul, Int.reduceEq, Int.reduceLT, Int.reduceLE, Int.reduceNeg, Int.reduceAdd, Int.reduceSub, Nat.reduceLT, Nat.reduceBEq, Nat.reduceSub, Nat.reducePow, hz', W, R, q1, m1, a1, c4, c3, c2, s0, hs', w2, w3, w4, readSl, hbl, hby, hcmp, hbd, n4, Option.map_none, Option.isSome_none]); first | refine zE3 ?_ | refine zE2 ?_ | refine zE4 ?_ | refine zE5 ?_ | refine zE6 ?_ | refine zE7 ?_ | refine zE8 ?_) | (refine w_u true ?_; (conv => arg 1; reduce); refine zR1 ?_) | (refine b_s (fun hb => ?_) (fun hb => ?_) <;> ((try simp only [hn1, hn2, hn3, hn4] at hb); first | (exfalso; omega) | skip)) | (first | refine g_s (fun hb => ?_) (fun hb => ?_) | refine d_s (fun hb => ?_) (fun hb => ?_)) <;> ((try simp only [hn1, hn2] at hb); rw [hb]; try simp only [hn3, hn4] at hb)
      refine st_loop ?_
      repeat' first | refine w_op rfl rfl ?_ | refine x_p rfl ?_ | refine w_sr ?_ | refine st_nil ?_ | refine w_seq ?_ | refine st_region ?_ | refine st_block ?_ | refine w_cond ?_ | refine b_t ?_ | refine b_f ?_ | refine st_skip ?_ | refine st_exit ?_ | refine st_ret ?_ | refine st_onNormN ?_ | refine st_onNormE ?_ | refine st_onNormR ?_ | refine st_onExitN ?_ | refine st_onExitR ?_ | refine st_onExitS ?_ | refine st_onExitO (by decide) ?_ | refine g_t ?_ | refine g_f rfl ?_ | refine o_op rfl ?_ | refine w_wr ?_ | refine w_wn ?_ | refine d_c rfl ?_ | refine d_on rfl ?_ | refine d_op rfl ?_ | refine d_y ?_ | refine d_gd rfl ?_ | refine d_t ?_ | refine d_f ?_ | refine d_nil ?_ | refine w_dg rfl ?_ | refine d_mid ?_ | refine d_mj ?_ | refine d_e ?_ | refine n_0 rfl ?_ | refine d_n ?_ | refine k_p rfl rfl rfl rfl (h125) ?_ | refine k_p rfl rfl rfl rfl (h126) ?_ | refine w_gd rfl ?_ | ((first | refine zE1 ?_ | refine w_cl rfl rfl ?_ | refine o_cl rfl ?_ | refine d_cl rfl ?_); (conv => arg 1; try simp only [go_sem, Nat.reduceEqDiff, reduceIte, Nat.reduceAdd, Nat.reduceLeDiff, Nat.reduceMul, Int.reduceEq, Int.reduceLT, Int.reduceLE, Int.reduceNeg, Int.reduceAdd, Int.reduceSub, Nat.reduceLT, Nat.reduceBEq, Nat.reduceSub, Nat.reducePow, hz', W, R, q1, m1, a1, c4, c3, c2, s0, hs', w2, w3, w4, readSl, hbl, hby, hcmp, hbd, n4, Option.map_none, Option.isSome_none]); first | refine zE3 ?_ | refine zE2 ?_ | refine zE4 ?_ | refine zE5 ?_ | refine zE6 ?_ | refine zE7 ?_ | refine zE8 ?_) | (refine w_u true ?_; (conv => arg 1; reduce); refine zR1 ?_) | (refine b_s (fun hb => ?_) (fun hb => ?_) <;> ((try simp only [hn1, hn2, hn3, hn4] at hb); first | (exfalso; omega) | skip)) | (first | refine g_s (fun hb => ?_) (fun hb => ?_) | refine d_s (fun hb => ?_) (fun hb => ?_)) <;> ((try simp only [hn1, hn2] at hb); rw [hb]; try simp only [hn3, hn4] at hb)
      all_goals simp only [one1, frz_t, mapF, frz_s, Option.map_some, List.append_nil, finN, hm, hv]
      all_goals first | (rw [if_pos ⟨trivial, hb⟩]; rfl) | (rw [if_neg (fun h => hb h.2)]; rfl)
end Go.Proofs.Bv
namespace Go.Proofs.Bv
open Go
set_option maxHeartbeats 8000000 in
set_option maxRecDepth 100000 in
theorem pc42_3 (G : Nat → Option (List AV)) (s : ByteArray) (c4 : ¬ 240 ≤ bAt s 0) (c3 : 224 ≤ bAt s 0) (hz : ¬ s.size = 0) (hn : s.size ≤ 140737488355328) : Pc (Cf G) 42 [.sc (.string s)] (.tup [.sc (.int .i64 (firstS s).1), .sc (.int .i64 (firstS s).2)]) := by
  unfold firstS firstN
  have hz' : ¬ (s.size : Int) = 0 := by omega
  rw [if_neg hz]
  have B : ∀ i, bAt s i < 256 := bAt_lt s
  have Q : ∀ i, i < s.size → s.data[i]? = some (s.get! i) := fun i hi => by
    have h' : i < s.data.size := hi
    rw [Array.getElem?_eq_getElem h']
    simp only [ByteArray.get!]
    rw [getElem!_pos s.data i h']
  have W : ∀ i, IntKind.i64.wrap (((s.get! i).toNat : Nat) : Int) = ((bAt s i : Nat) : Int) := fun i => by
    have := B i
    unfold bAt at this ⊢
    rw [i64 (by omega) (by omega)]
  have R : ∀ i, ((bAt s i : Nat) : Int).tmod 64 = ((bAt s i % 64 : Nat) : Int) := fun i => by rw [Int.tmod_eq_emod_of_nonneg (by omega)]; omega
  have M : ∀ a : Nat, a ≤ 4294967296 → IntKind.i64.wrap ((a : Int) * 64) = ((a * 64 : Nat) : Int) := fun a ha => by rw [i64 (by omega) (by omega)]; omega
  have A : ∀ a i : Nat, a ≤ 4294967296000 → IntKind.i64.wrap ((a : Int) + ((bAt s i % 64 : Nat) : Int)) = ((a + bAt s i % 64 : Nat) : Int) := fun a i ha => by rw [i64 (by omega) (by omega)]; omega
  have w2 : IntKind.i64.wrap 2 = 2 := i64 (by omega) (by omega)
  have w3 : IntKind.i64.wrap 3 = 3 := i64 (by omega) (by omega)
  have w4 : IntKind.i64.wrap 4 = 4 := i64 (by omega) (by omega)
  have n4 : ∀ k, asNat (.sc (.int k 4)) = some 4 := fun k => rfl
  have q0 := Q 0 (by omega)
  have b0 := B 0
  have b1 := B 1
  have b2 := B 2
  have b3 := B 3
  rw [if_neg c4, if_pos c3]
  have c4 : ¬ (240 : Int) ≤ ((bAt s 0 : Nat) : Int) := by omega
  have c3 : (224 : Int) ≤ ((bAt s 0 : Nat) : Int) := by omega
  have s0 : IntKind.i64.wrap (((bAt s 0 : Nat) : Int) - 224) = ((bAt s 0 - 224 : Nat) : Int) := by rw [i64 (by omega) (by omega)]; omega
  by_cases hs : s.size < 3
  · have hs' : (s.size : Int) < 3 := by omega
    rw [if_pos hs]
    refine Pc_of (Gf_enter (C := Cf G) Tryz.func42 rfl ok42 (Nat.le_of_ble_eq_true rfl) ?_)
    simp only [Tryz.f42, Option.getD_some]
    repeat' first | refine w_op rfl rfl ?_ | refine x_p rfl ?_ | refine w_sr ?_ | refine st_nil ?_ | refine w_seq ?_ | refine st_region ?_ | refine st_block ?_ | refine w_cond ?_ | refine b_t ?_ | refine b_f ?_ | refine st_skip ?_ | refine st_exit ?_ | refine st_ret ?_ | refine st_onNormN ?_ | refine st_onNormE ?_ | refine st_onNormR ?_ | refine st_onExitN ?_ | refine st_onExitR ?_ | refine st_onExitS ?_ | refine st_onExitO (by decide) ?_ | refine g_t ?_ | refine g_f rfl ?_ | refine o_op rfl ?_ | refine w_wr ?_ | refine w_wn ?_ | refine d_c rfl ?_ | refine d_on rfl ?_ | refine d_op rfl ?_ | refine d_y ?_ | refine d_gd rfl ?_ | refine d_t ?_ | refine d_f ?_ | refine d_nil ?_ | refine w_dg rfl ?_ | refine d_mid ?_ | refine d_mj ?_ | refine d_e ?_ | refine w_gd rfl ?_ | ((first | refine zE1 ?_); (conv => arg 1; try simp only [go_sem, Nat.reduceEqDiff, reduceIte, Nat.reduceAdd, Nat.reduceLeDiff, Nat.reduceMul, Int.reduceEq, Int.reduceLT, Int.reduceLE, Int.reduceNeg, Int.reduceAdd, Int.reduceSub, Nat.reduceLT, Nat.reduceBEq, Nat.reduceSub, Nat.reducePow, hz', q0, W, c4, c3, s0, hs']); first | refine zE3 ?_ | refine zE2 ?_ | refine zE4 ?_ | refine zE5 ?_ | refine zE6 ?_ | refine zE7 ?_ | refine zE8 ?_) | (refine w_u true ?_; (conv => arg 1; reduce); refine zR1 ?_) | (refine b_s (fun hb => ?_) (fun hb => ?_) <;> ((try simp only [hn1, hn2, hn3, hn4] at hb); first | (exfalso; omega) | skip)) | (first | refine g_s (fun hb => ?_) (fun hb => ?_) | refine d_s (fun hb => ?_) (fun hb => ?_)) <;> ((try simp only [hn1, hn2] at hb); rw [hb]; try simp only [hn3, hn4] at hb)
    rfl
  · have hs' : ¬ (s.size : Int) < 3 := by omega
    rw [if_neg hs]
    have q1 := Q 1 (by omega)
    have m1 := M (bAt s 0 - 224) (by omega)
    have a1 := A ((bAt s 0 - 224) * 64) 1 (by omega)
    have q2 := Q 2 (by omega)
    have m2 := M ((bAt s 0 - 224) * 64 + bAt s 1 % 64) (by omega)
    have a2 := A (((bAt s 0 - 224) * 64 + bAt s 1 % 64) * 64) 2 (by omega)
    have hbd : bnds s.size none (some (.sc (.int .i64 3))) = some (0, 3) := by
      simp only [bnds, asNat]
      rw [if_pos (by omega)]
      simp
      omega
    have hcmp : mayN (((bAt s 0 - 224) * 64 + bAt s 1 % 64) * 64 + bAt s 2 % 64) = true → ((⟨((octN (((bAt s 0 - 224) * 64 + bAt s 1 % 64) * 64 + bAt s 2 % 64)).map UInt8.ofNat).toArray⟩ : ByteArray).toList == (s.extract 0 3).toList) = decide (octN (((bAt s 0 - 224) * 64 + bAt s 1 % 64) * 64 + bAt s 2 % 64) = [bAt s 0, bAt s 1, bAt s 2]) := fun hm => cmp_bytes s _ (octN_lt _ ((mayN_iff _).1 hm).1) 3 (by omega)
    generalize hv : (((bAt s 0 - 224) * 64 + bAt s 1 % 64) * 64 + bAt s 2 % 64) = v at *
    have h125 := pc80 G v
    cases hm : mayN v with
    | false =>
      rw [hm] at h125
      refine Pc_of (Gf_enter (C := Cf G) Tryz.func42 rfl ok42 (Nat.le_of_ble_eq_true rfl) ?_)
      simp only [Tryz.f42, Option.getD_some]
      repeat' first | refine w_op rfl rfl ?_ | refine x_p rfl ?_ | refine w_sr ?_ | refine st_nil ?_ | refine w_seq ?_ | refine st_region ?_ | refine st_block ?_ | refine w_cond ?_ | refine b_t ?_ | refine b_f ?_ | refine st_skip ?_ | refine st_exit ?_ | refine st_ret ?_ | refine st_onNormN ?_ | refine st_onNormE ?_ | refine st_onNormR ?_ | refine st_onExitN ?_ | refine st_onExitR ?_ | refine st_onExitS ?_ | refine st_onExitO (by decide) ?_ | refine g_t ?_ | refine g_f rfl ?_ | refine o_op rfl ?_ | refine w_wr ?_ | refine w_wn ?_ | refine d_c rfl ?_ | refine d_on rfl ?_ | refine d_op rfl ?_ | refine d_y ?_ | refine d_gd rfl ?_ | refine d_t ?_ | refine d_f ?_ | refine d_nil ?_ | refine w_dg rfl ?_ | refine d_mid ?_ | refine d_mj ?_ | refine d_e ?_ | refine w_gd rfl ?_ | ((first | refine zE1 ?_); (conv => arg 1; try simp only [go_sem, Nat.reduceEqDiff, reduceIte, Nat.reduceAdd, Nat.reduceLeDiff, Nat.reduceMul, Int.reduceEq, Int.reduceLT, Int.reduceLE, Int.reduceNeg, Int.reduceAdd, Int.reduceSub, Nat.reduceLT, Nat.reduceBEq, Nat.reduceSub, Nat.reducePow, hz', q0, W, R, c4, c3, s0, hs', w2, w3, w4]); first | refine zE3 ?_ | refine zE2 ?_ | refine zE4 ?_ | refine zE5 ?_ | refine zE6 ?_ | refine zE7 ?_ | refine zE8 ?_) | (refine w_u true ?_; (conv => arg 1; reduce); refine zR1 ?_) | (refine b_s (fun hb => ?_) (fun hb => ?_) <;> ((try simp only [hn1, hn2, hn3, hn4] at hb); first | (exfalso; omega) | skip)) | (first | refine g_s (fun hb => ?_) (fun hb => ?_) | refine d_s (fun hb => ?_) (fun hb => ?_)) <;> ((try simp only [hn1, hn2] at hb); rw [hb]; try simp only [hn3, hn4] at hb)
      refine st_loop ?_
      repeat' first | refine w_op rfl rfl ?_ | refine x_p rfl ?_ | refine w_sr ?_ | refine st_nil ?_ | refine w_seq ?_ | refine st_region ?_ | refine st_block ?_ | refine w_cond ?_ | refine b_t ?_ | refine b_f ?_ | refine st_skip ?_ | refine st_exit ?_ | refine st_ret ?_ | refine st_onNormN ?_ | refine st_onNormE ?_ | refine st_onNormR ?_ | refine st_onExitN ?_ | refine st_onExitR ?_ | refine st_onExitS ?_ | refine st_onExitO (by decide) ?_ | refine g_t ?_ | refine g_f rfl ?_ | refine o_op rfl ?_ | refine w_wr ?_ | refine w_wn ?_ | refine d_c rfl ?_ | refine d_on rfl ?_ | refine d_op rfl ?_ | refine d_y ?_ | refine d_gd rfl ?_ | refine d_t ?_ | refine d_f ?_ | refine d_nil ?_ | refine w_dg rfl ?_ | refine d_mid ?_ | refine d_mj ?_ | refine d_e ?_ | refine n_0 rfl ?_ | refine d_n ?_ | refine k_p rfl rfl rfl rfl (h125) ?_ | refine w_gd rfl ?_ | ((first | refine zE1 ?_ | refine w_cl rfl rfl ?_ | refine o_cl rfl ?_ | refine d_cl rfl ?_); (conv => arg 1; try simp only [go_sem, Nat.reduceEqDiff, reduceIte, Nat.reduceAdd, Nat.reduceLeDiff, Nat.reduceMul, Int.reduceEq, Int.reduceLT, Int.reduceLE, Int.reduceNeg, Int.reduceAdd, Int.reduceSub, Nat.reduceLT, Nat.reduceBEq, Nat.reduceSub, Nat.reducePow, hz', W, R, q1, m1, a1, q2, m2, a2, c4, c3, s0, hs', w2, w3, w4, hbd, n4, Option.map_none, Option.isSome_none]); first | refine zE3 ?_ | refine zE2 ?_ | refine zE4 ?_ | refine zE5 ?_ | refine zE6 ?_ | refine zE7 ?_ | refine zE8 ?_) | (refine w_u true ?_; (conv => arg 1; reduce); refine zR1 ?_) | (refine b_s (fun hb => ?_) (fun hb => ?_) <;> ((try simp only [hn1, hn2, hn3, hn4] at hb); first | (exfalso; omega) | skip)) | (first | refine g_s (fun hb => ?_) (fun hb => ?_) | refine d_s (fun hb => ?_) (fun hb => ?_)) <;> ((try simp only [hn1, hn2] at hb); rw [hb]; try simp only [hn3, hn4] at hb)
      refine st_loop ?_
      repeat' first | refine w_op rfl rfl ?_ | refine x_p rfl ?_ | refine w_sr ?_ | refine st_nil ?_ | refine w_seq ?_ | refine st_region ?_ | refine st_block ?_ | refine w_cond ?_ | refine b_t ?_ | refine b_f ?_ | refine st_skip ?_ | refine st_exit ?_ | refine st_ret ?_ | refine st_onNormN ?_ | refine st_onNormE ?_ | refine st_onNormR ?_ | refine st_onExitN ?_ | refine st_onExitR ?_ | refine st_onExitS ?_ | refine st_onExitO (by decide) ?_ | refine g_t ?_ | refine g_f rfl ?_ | refine o_op rfl ?_ | refine w_wr ?_ | refine w_wn ?_ | refine d_c rfl ?_ | refine d_on rfl ?_ | refine d_op rfl ?_ | refine d_y ?_ | refine d_gd rfl ?_ | refine d_t ?_ | refine d_f ?_ | refine d_nil ?_ | refine w_dg rfl ?_ | refine d_mid ?_ | refine d_mj ?_ | refine d_e ?_ | refine n_0 rfl ?_ | refine d_n ?_ | refine k_p rfl rfl rfl rfl (h125) ?_ | refine w_gd rfl ?_ | ((first | refine zE1 ?_ | refine w_cl rfl rfl ?_ | refine o_cl rfl ?_ | refine d_cl rfl ?_); (conv => arg 1; try simp only [go_sem, Nat.reduceEqDiff, reduceIte, Nat.reduceAdd, Nat.reduceLeDiff, Nat.reduceMul, Int.reduceEq, Int.reduceLT, Int.reduceLE, Int.reduceNeg, Int.reduceAdd, Int.reduceSub, Nat.reduceLT, Nat.reduceBEq, Nat.reduceSub, Nat.reducePow, hz', W, R, q1, m1, a1, q2, m2, a2, c4, c3, s0, hs', w2, w3, w4, hbd, n4, Option.map_none, Option.isSome_none]); first | refine zE3 ?_ | refine zE2 ?_ | refine zE4 ?_ | refine zE5 ?_ | refine zE6 ?_ | refine zE7 ?_ | refine zE8 ?_) | (refine w_u true ?_; (conv => arg 1; reduce); refine zR1 ?_) | (refine b_s (fun hb => ?_) (fun hb => ?_) <;> ((try simp only [hn1, hn2, hn3, hn4] at hb); first | (exfalso; omega) | skip)) | (first | refine g_s (fun hb => ?_) (fun hb => ?_) | refine d_s (fun hb => ?_) (fun hb => ?_)) <;> ((try simp only [hn1, hn2] at hb); rw [hb]; try simp only [hn3, hn4] at hb)
      refine st_loop ?_
      repeat' first | refine w_op rfl rfl ?_ | refine x_p rfl ?_ | refine w_sr ?_ | refine st_nil ?_ | refine w_seq ?_ | refine st_region ?_ | refine st_block ?_ | refine w_cond ?_ | refine b_t ?_ | refine b_f ?_ | refine st_skip ?_ | refine st_exit ?_ | refine st_ret ?_ | refine st_onNormN ?_ | refine st_onNormE ?_ | refine st_onNormR ?_ | refine st_onExitN ?_ | refine st_onExitR ?_ | refine st_onExitS ?_ | refine st_onExitO (by decide) ?_ | refine g_t ?_ | refine g_f rfl ?_ | refine o_op rfl ?_ | refine w_wr ?_ | refine w_wn ?_ | refine d_c rfl ?_ | refine d_on rfl ?_ | refine d_op rfl ?_ | refine d_y ?_ | refine d_gd rfl ?_ | refine d_t ?_ | refine d_f ?_ | refine d_nil ?_ | refine w_dg rfl ?_ | refine d_mid ?_ | refine d_mj ?_ | refine d_e ?_ | refine n_0 rfl ?_ | refine d_n ?_ | refine k_p rfl rfl rfl rfl (h125) ?_ | refine w_gd rfl ?_ | ((first | refine zE1 ?_ | refine w_cl rfl rfl ?_ | refine o_cl rfl ?_ | refine d_cl rfl ?_); (conv => arg 1; try simp only [go_sem, Nat.reduceEqDiff, reduceIte, Nat.reduceAdd, Nat.reduceLeDiff, Nat.reduceMul, Int.reduceEq, Int.reduceLT, Int.reduceLE, Int.reduceNeg, Int.reduceAdd, Int.reduceSub, Nat.reduceLT, Nat.reduceBEq, Nat.reduceSub, Nat.reducePow, hz', W, R, q1, m1, a1, q2, m2, a2, c4, c3, s0, hs', w2, w3, w4, hbd, n4, Option.map_none, Option.isSome_none]); first | refine zE3 ?_ | refine zE2 ?_ | refine zE4 ?_ | refine zE5 ?_ | refine zE6 ?_ | refine zE7 ?_ | refine zE8 ?_) | (refine w_u true ?_; (conv => arg 1; reduce); refine zR1 ?_) | (refine b_s (fun hb => ?_) (fun hb => ?_) <;> ((try simp only [hn1, hn2, hn3, hn4] at hb); first | (exfalso; omega) | skip)) | (first | refine g_s (fun hb => ?_) (fun hb => ?_) | refine d_s (fun hb => ?_) (fun hb => ?_)) <;> ((try simp only [hn1, hn2] at hb); rw [hb]; try simp only [hn3, hn4] at hb)
      all_goals simp only [one1, frz_t, mapF, frz_s, Option.map_some, List.append_nil, finN, hm, hv]
      all_goals (rw [if_neg (fun h => absurd h.1 (by decide))]; rfl)
    | true =>
      rw [hm] at h125
      have hle := ((mayN_iff v).1 hm).1
      have h126 := pc81 G v hle
      have hby := bytesOf_b8s (octN_lt v hle)
      have hbl : (b8s (octN v)).length = (octN v).length := by simp [b8s]
      have hcmp := hcmp hm
      refine Pc_of (Gf_enter (C := Cf G) Tryz.func42 rfl ok42 (Nat.le_of_ble_eq_true rfl) ?_)
      simp only [Tryz.f42, Option.getD_some]
      repeat' first | refine w_op rfl rfl ?_ | refine x_p rfl ?_ | refine w_sr ?_ | refine st_nil ?_ | refine w_seq ?_ | refine st_region ?_ | refine st_block ?_ | refine w_cond ?_ | refine b_t ?_ | refine b_f ?_ | refine st_skip ?_ | refine st_exit ?_ | refine st_ret ?_ | refine st_onNormN ?_ | refine st_onNormE ?_ | refine st_onNormR ?_ | refine st_onExitN ?_ | refine st_onExitR ?_ | refine st_onExitS ?_ | refine st_onExitO (by decide) ?_ | refine g_t ?_ | refine g_f rfl ?_ | refine o_op rfl ?_ | refine w_wr ?_ | refine w_wn ?_ | refine d_c rfl ?_ | refine d_on rfl ?_ | refine d_op rfl ?_ | refine d_y ?_ | refine d_gd rfl ?_ | refine d_t ?_ | refine d_f ?_ | refine d_nil ?_ | refine w_dg rfl ?_ | refine d_mid ?_ | refine d_mj ?_ | refine d_e ?_ | refine w_gd rfl ?_ | ((first | refine zE1 ?_); (conv => arg 1; try simp only [go_sem, Nat.reduceEqDiff, reduceIte, Nat.reduceAdd, Nat.reduceLeDiff, Nat.reduceMul, Int.reduceEq, Int.reduceLT, Int.reduceLE, Int.reduceNeg, Int.reduceAdd, Int.reduceSub, Nat.reduceLT, Nat.reduceBEq, Nat.reduceSub, Nat.reducePow, hz', q0, W, R, c4, c3, s0, hs', w2, w3, w4]); first | refine zE3 ?_ | refine zE2 ?_ | refine zE4 ?_ | refine zE5 ?_ | refine zE6 ?_ | refine zE7 ?_ | refine zE8 ?_) | (refine w_u true ?_; (conv => arg 1; reduce); refine zR1 ?_) | (refine b_s (fun hb => ?_) (fun hb => ?_) <;> ((try simp only [hn1, hn2, hn3, hn4] at hb); first | (exfalso; omega) | skip)) | (first | refine g_s (fun hb => ?_) (fun hb => ?_) | refine d_s (fun hb => ?_) (fun hb => ?_)) <;> ((try simp only [hn1, hn2] at hb); rw [hb]; try simp only [hn3, hn4] at hb)
      refine st_loop ?_
      repeat' first | refine w_op rfl rfl ?_ | refine x_p rfl ?_ | refine w_sr ?_ | refine st_nil ?_ | refine w_seq ?_ | refine st_region ?_ | refine st_block ?_ | refine w_cond ?_ | refine b_t ?_ | refine b_f ?_ | refine st_skip ?_ | refine st_exit ?_ | refine st_ret ?_ | refine st_onNormN ?_ | refine st_onNormE ?_ | refine st_onNormR ?_ | refine st_onExitN ?_ | refine st_onExitR ?_ | refine st_onExitS ?_ | refine st_onExitO (by decide) ?_ | refine g_t ?_ | refine g_f rfl ?_ | refine o_op rfl ?_ | refine w_wr ?_ | refine w_wn ?_ | refine d_c rfl ?_ | refine d_on rfl ?_ | refine d_op rfl ?_ | refine d_y ?_ | refine d_gd rfl ?_ | refine d_t ?_ | refine d_f ?_ | refine d_nil ?_ | refine w_dg rfl ?_ | refine d_mid ?_ | refine d_mj ?_ | refine d_e ?_ | refine n_0 rfl ?_ | refine d_n ?_ | refine k_p rfl rfl rfl rfl (h125) ?_ | refine k_p rfl rfl rfl rfl (h126) ?_ | refine w_gd rfl ?_ | ((first | refine zE1 ?_ | refine w_cl rfl rfl ?_ | refine o_cl rfl ?_ | refine d_cl rfl ?_); (conv => arg 1; try simp only [go_sem, Nat.reduceEqDiff, reduceIte, Nat.reduceAdd, Nat.reduceLeDiff, Nat.reduceMul, Int.reduceEq, Int.reduceLT, Int.reduceLE, Int.reduceNeg, Int.reduceAdd, Int.reduceSub, Nat.reduceLT, Nat.reduceBEq, Nat.reduceSub, Nat.reducePow, hz', W, R, q1, m1, a1, q2, m2, a2, c4, c3, s0, hs', w2, w3, w4, readSl, hbl, hby, hcmp, hbd, n4, Option.map_none, Option.isSome_none]); first | refine zE3 ?_ | refine zE2 ?_ | refine zE4 ?_ | refine zE5 ?_ | refine zE6 ?_ | refine zE7 ?_ | refine zE8 ?_) | (refine w_u true ?_; (conv => arg 1; reduce); refine zR1 ?_) | (refine b_s (fun hb => ?_) (fun hb => ?_) <;> ((try simp only [hn1, hn2, hn3, hn4] at hb); first | (exfalso; omega) | skip)) | (first | refine g_s (fun hb => ?_) (fun hb => ?_) | refine d_s (fun hb => ?_) (fun hb => ?_)) <;> ((try simp only [hn1, hn2] at hb); rw [hb]; try simp only [hn3, hn4] at hb)
      refine st_loop ?_
      repeat' first | refine w_op rfl rfl ?_ | refine x_p rfl ?_ | refine w_sr ?_ | refine st_nil ?_ | refine w_seq ?_ | refine st_region ?_ | refine st_block ?_ | refine w_cond ?_ | refine b_t ?_ | refine b_f ?_ | refine st_skip ?_ | refine st_exit ?_ | refine st_ret ?_ | refine st_onNormN ?_ | refine st_onNormE ?_ | refine st_onNormR ?_ | refine st_onExitN ?_ | refine st_onExitR ?_ | refine st_onExitS ?_ | refine st_onExitO (by decide) ?_ | refine g_t ?_ | refine g_f rfl ?_ | refine o_op rfl ?_ | refine w_wr ?_ | refine w_wn ?_ | refine d_c rfl ?_ | refine d_on rfl ?_ | refine d_op rfl ?_ | refine d_y ?_ | refine d_gd rfl ?_ | refine d_t ?_ | refine d_f ?_ | refine d_nil ?_ | refine w_dg rfl ?_ | refine d_mid ?_ | refine d_mj ?_ | refine d_e ?_ | refine n_0 rfl ?_ | refine d_n ?_ | refine k_p rfl rfl rfl rfl (h125) ?_ | refine k_p rfl rfl rfl rfl (h126) ?_ | refine w_gd rfl ?_ | ((first | refine zE1 ?_ | refine w_cl rfl rfl ?_ | refine o_cl rfl ?_ | refine d_cl rfl ?_); (conv => arg 1; try simp only [go_sem, Nat.reduceEqDiff, reduceIte, Nat.reduceAdd, Nat.reduceLeDiff, Nat.reduceMul, Int.reduceEq, Int.reduceLT, Int.reduceLE, Int.reduceNeg, Int.reduceAdd, Int.reduceSub, Nat.reduceLT, Nat.reduceBEq, Nat.reduceSub, Nat.reducePow, hz', W, R, q1, m1, a1, q2, m2, a2, c4, c3, s0, hs', w2, w3, w4, readSl, hbl, hby, hcmp, hbd, n4, Option.map_none, Option.isSome_none]); first | refine zE3 ?_ | refine zE2 ?_ | refine zE4 ?_ | refine zE5 ?_ | refine zE6 ?_ | refine zE7 ?_ | refine zE8 ?_) | (refine w_u true ?_; (conv => arg 1; reduce); refine zR1 ?_) | (refine b_s (fun hb => ?_) (fun hb => ?_) <;> ((try simp only [hn1, hn2, hn3, hn4] at hb); first | (exfalso; omega) | skip)) | (first | refine g_s (fun hb => ?_) (fun hb => ?_) | refine d_s (fun hb => ?_) (fun hb => ?_)) <;> ((try simp only [hn1, hn2] at hb); rw [hb]; try simp only [hn3, hn4] at hb)
      refine st_loop ?_
      repeat' first | refine w_op rfl rfl ?_ | refine x_p rfl ?_ | refine w_sr ?_ | refine st_nil ?_ | refine w_seq ?_ | refine st_region ?_ | refine st_block ?_ | refine w_cond ?_ | refine b_t ?_ | refine b_f ?_ | refine st_skip ?_ | refine st_exit ?_ | refine st_ret ?_ | refine st_onNormN ?_ | refine st_onNormE ?_ | refine st_onNormR ?_ | refine st_onExitN ?_ | refine st_onExitR ?_ | refine st_onExitS ?_ | refine st_onExitO (by decide) ?_ | refine g_t ?_ | refine g_f rfl ?_ | refine o_op rfl ?_ | refine w_wr ?_ | refine w_wn ?_ | refine d_c rfl ?_ | refine d_on rfl ?_ | refine d_op rfl ?_ | refine d_y ?_ | refine d_gd rfl ?_ | refine d_t ?_ | refine d_f ?_ | refine d_nil ?_ | refine w_dg rfl ?_ | refine d_mid ?_ | refine d_mj ?_ | refine d_e ?_ | refine n_0 rfl ?_ | refine d_n ?_ | refine k_p rfl rfl rfl rfl (h125) ?_ | refine k_p rfl rfl rfl rfl (h126) ?_ | refine w_gd rfl ?_ | ((first | refine zE1 ?_ | refine w_cl rfl rfl ?_ | refine o_cl rfl ?_ | refine d_cl rfl ?_); (conv => arg 1; try simp only [go_sem, Nat.reduceEqDiff, reduceIte, Nat.reduceAdd, Nat.reduceLeDiff, Nat.reduceMul, Int.reduceEq, Int.reduceLT, Int.reduceLE, Int.reduceNeg, Int.reduceAdd, Int.reduceSub, Nat.reduceLT, Nat.reduceBEq, Nat.reduceSub, Nat.reducePow, hz', W, R, q1, m1, a1, q2, m2, a2, c4, c3, s0, hs', w2, w3, w4, readSl, hbl, hby, hcmp, hbd, n4, Option.map_none, Option.isSome_none]); first | refine zE3 ?_ | refine zE2 ?_ | refine zE4 ?_ | refine zE5 ?_ | refine zE6 ?_ | refine zE7 ?_ | refine zE8 ?_) | (refine w_u true ?_; (conv => arg 1; reduce); refine zR1 ?_) | (refine b_s (fun hb => ?_) (fun hb => ?_) <;> ((try simp only [hn1, hn2, hn3, hn4] at hb); first | (exfalso; omega) | skip)) | (first | refine g_s (fun hb => ?_) (fun hb => ?_) | refine d_s (fun hb => ?_) (fun hb => ?_)) <;> ((try simp only [hn1, hn2] at hb); rw [hb]; try simp only [hn3, hn4] at hb)
      all_goals simp only [one1, frz_t, mapF, frz_s, Option.map_some, List.append_nil, finN, hm, hv]
      all_goals first | (rw [if_pos ⟨trivial, hb⟩]; rfl) | (rw [if_neg (fun h => hb h.2)]; rfl)
end Go.Proofs.Bv
namespace Go.Proofs.Bv
open Go
set_option maxHeartbeats 8000000 in
set_option maxRecDepth 100000 in
theorem pc42_4 (G : Nat → Option (List AV)) (s : ByteArray) (c4 : 240 ≤ bAt s 0) (hz : ¬ s.size = 0) (hn : s.size ≤ 140737488355328) : Pc (Cf G) 42 [.sc (.string s)] (.tup [.sc (.int .i64 (firstS s).1), .sc (.int .i64 (firstS s).2)]) := by
  unfold firstS firstN
  have hz' : ¬ (s.size : Int) = 0 := by omega
  rw [if_neg hz]
  have B : ∀ i, bAt s i < 256 := bAt_lt s
  have Q : ∀ i, i < s.size → s.data[i]? = some (s.get! i) := fun i hi => by
    have h' : i < s.data.size := hi
    rw [Array.getElem?_eq_getElem h']
    simp only [ByteArray.get!]
    rw [getElem!_pos s.data i h']
  have W : ∀ i, IntKind.i64.wrap (((s.get! i).toNat : Nat) : Int) = ((bAt s i : Nat) : Int) := fun i => by
    have := B i
    unfold bAt at this ⊢
    rw [i64 (by omega) (by omega)]
  have R : ∀ i, ((bAt s i : Nat) : Int).tmod 64 = ((bAt s i % 64 : Nat) : Int) := fun i => by rw [Int.tmod_eq_emod_of_nonneg (by omega)]; omega
  have M : ∀ a : Nat, a ≤ 4294967296 → IntKind.i64.wrap ((a : Int) * 64) = ((a * 64 : Nat) : Int) := fun a ha => by rw [i64 (by omega) (by omega)]; omega
  have A : ∀ a i : Nat, a ≤ 4294967296000 → IntKind.i64.wrap ((a : Int) + ((bAt s i % 64 : Nat) : Int)) = ((a + bAt s i % 64 : Nat) : Int) := fun a i ha => by rw [i64 (by omega) (by omega)]; omega
  have w2 : IntKind.i64.wrap 2 = 2 := i64 (by omega) (by omega)
  have w3 : IntKind.i64.wrap 3 = 3 := i64 (by omega) (by omega)
  have w4 : IntKind.i64.wrap 4 = 4 := i64 (by omega) (by omega)
  have n4 : ∀ k, asNat (.sc (.int k 4)) = some 4 := fun k => rfl
  have q0 := Q 0 (by omega)
  have b0 := B 0
  have b1 := B 1
  have b2 := B 2
  have b3 := B 3
  rw [if_pos c4]
  have c4 : (240 : Int) ≤ ((bAt s 0 : Nat) : Int) := by omega
  have s0 : IntKind.i64.wrap (((bAt s 0 : Nat) : Int) - 240) = ((bAt s 0 - 240 : Nat) : Int) := by rw [i64 (by omega) (by omega)]; omega
  by_cases hs : s.size < 4
  · have hs' : (s.size : Int) < 4 := by omega
    rw [if_pos hs]
    refine Pc_of (Gf_enter (C := Cf G) Tryz.func42 rfl ok42 (Nat.le_of_ble_eq_true rfl) ?_)
    simp only [Tryz.f42, Option.getD_some]
    repeat' first | refine w_op rfl rfl ?_ | refine x_p rfl ?_ | refine w_sr ?_ | refine st_nil ?_ | refine w_seq ?_ | refine st_region ?_ | refine st_block ?_ | refine w_cond ?_ | refine b_t ?_ | refine b_f ?_ | refine st_skip ?_ | refine st_exit ?_ | refine st_ret ?_ | refine st_onNormN ?_ | refine st_onNormE ?_ | refine st_onNormR ?_ | refine st_onExitN ?_ | refine st_onExitR ?_ | refine st_onExitS ?_ | refine st_onExitO (by decide) ?_ | refine g_t ?_ | refine g_f rfl ?_ | refine o_op rfl ?_ | refine w_wr ?_ | refine w_wn ?_ | refine d_c rfl ?_ | refine d_on rfl ?_ | refine d_op rfl ?_ | refine d_y ?_ | refine d_gd rfl ?_ | refine d_t ?_ | refine d_f ?_ | refine d_nil ?_ | refine w_dg rfl ?_ | refine d_mid ?_ | refine d_mj ?_ | refine d_e ?_ | refine w_gd rfl ?_ | ((first | refine zE1 ?_); (conv => arg 1; try simp only [go_sem, Nat.reduceEqDiff, reduceIte, Nat.reduceAdd, Nat.reduceLeDiff, Nat.reduceMul, Int.reduceEq, Int.reduceLT, Int.reduceLE, Int.reduceNeg, Int.reduceAdd, Int.reduceSub, Nat.reduceLT, Nat.reduceBEq, Nat.reduceSub, Nat.reducePow, hz', q0, W, c4, s0, hs']); first | refine zE3 ?_ | refine zE2 ?_ | refine zE4 ?_ | refine zE5 ?_ | refine zE6 ?_ | refine zE7 ?_ | refine zE8 ?_) | (refine w_u true ?_; (conv => arg 1; reduce); refine zR1 ?_) | (refine b_s (fun hb => ?_) (fun hb => ?_) <;> ((try simp only [hn1, hn2, hn3, hn4] at hb); first | (exfalso; omega) | skip)) | (first | refine g_s (fun hb => ?_) (fun hb => ?_) | refine d_s (fun hb => ?_) (fun hb => ?_)) <;> ((try simp only [hn1, hn2] at hb); rw [hb]; try simp only [hn3, hn4] at hb)
    rfl
  · have hs' : ¬ (s.size : Int) < 4 := by omega
    rw [if_neg hs]
    have q1 := Q 1 (by omega)
    have m1 := M (bAt s 0 - 240) (by omega)
    have a1 := A ((bAt s 0 - 240) * 64) 1 (by omega)
    have q2 := Q 2 (by omega)
    have m2 := M ((bAt s 0 - 240) * 64 + bAt s 1 % 64) (by omega)
    have a2 := A (((bAt s 0 - 240) * 64 + bAt s 1 % 64) * 64) 2 (by omega)
    have q3 := Q 3 (by omega)
    have m3 := M (((bAt s 0 - 240) * 64 + bAt s 1 % 64) * 64 + bAt s 2 % 64) (by omega)
    have a3 := A ((((bAt s 0 - 240) * 64 + bAt s 1 % 64) * 64 + bAt s 2 % 64) * 64) 3 (by omega)
    have hbd : bnds s.size none (some (.sc (.int .i64 4))) = some (0, 4) := by
      simp only [bnds, asNat]
      rw [if_pos (by omega)]
      simp
      omega
    have hcmp : mayN ((((bAt s 0 - 240) * 64 + bAt s 1 % 64) * 64 + bAt s 2 % 64) * 64 + bAt s 3 % 64) = true → ((⟨((octN ((((bAt s 0 - 240) * 64 + bAt s 1 % 64) * 64 + bAt s 2 % 64) * 64 + bAt s 3 % 64)).map UInt8.ofNat).toArray⟩ : ByteArray).toList == (s.extract 0 4).toList) = decide (octN ((((bAt s 0 - 240) * 64 + bAt s 1 % 64) * 64 + bAt s 2 % 64) * 64 + bAt s 3 % 64) = [bAt s 0, bAt s 1, bAt s 2, bAt s 3]) := fun hm => cmp_bytes s _ (octN_lt _ ((mayN_iff _).1 hm).1) 4 (by omega)
    generalize hv : ((((bAt s 0 - 240) * 64 + bAt s 1 % 64) * 64 + bAt s 2 % 64) * 64 + bAt s 3 % 64) = v at *
    have h125 := pc80 G v
    cases hm : mayN v with
    | false =>
      rw [hm] at h125
      refine Pc_of (Gf_enter (C := Cf G) Tryz.func42 rfl ok42 (Nat.le_of_ble_eq_true rfl) ?_)
      simp only [Tryz.f42, Option.getD_some]
      repeat' first | refine w_op rfl rfl ?_ | refine x_p rfl ?_ | refine w_sr ?_ | refine st_nil ?_ | refine w_seq ?_ | refine st_region ?_ | refine st_block ?_ | refine w_cond ?_ | refine b_t ?_ | refine b_f ?_ | refine st_skip ?_ | refine st_exit ?_ | refine st_ret ?_ | refine st_onNormN ?_ | refine st_onNormE ?_ | refine st_onNormR ?_ | refine st_onExitN ?_ | refine st_onExitR ?_ | refine st_onExitS ?_ | refine st_onExitO (by decide) ?_ | refine g_t ?_ | refine g_f rfl ?_ | refine o_op rfl ?_ | refine w_wr ?_ | refine w_wn ?_ | refine d_c rfl ?_ | refine d_on rfl ?_ | refine d_op rfl ?_ | refine d_y ?_ | refine d_gd rfl ?_ | refine d_t ?_ | refine d_f ?_ | refine d_nil ?_ | refine w_dg rfl ?_ | refine d_mid ?_ | refine d_mj ?_ | refine d_e ?_ | refine w_gd rfl ?_ | ((first | refine zE1 ?_); (conv => arg 1; try simp only [go_sem, Nat.reduceEqDiff, reduceIte, Nat.reduceAdd, Nat.reduceLeDiff, Nat.reduceMul, Int.reduceEq, Int.reduceLT, Int.reduceLE, Int.reduceNeg, Int.reduceAdd, Int.reduceSub, Nat.reduceLT, Nat.reduceBEq, Nat.reduceSub, Nat.reducePow, hz', q0, W, R, c4, s0, hs', w2, w3, w4]); first | refine zE3 ?_ | refine zE2 ?_ | refine zE4 ?_ | refine zE5 ?_ | refine zE6 ?_ | refine zE7 ?_ | refine zE8 ?_) | (refine w_u true ?_; (conv => arg 1; reduce); refine zR1 ?_) | (refine b_s (fun hb => ?_) (fun hb => ?_) <;> ((try simp only [hn1, hn2, hn3, hn4] at hb); first | (exfalso; omega) | skip)) | (first | refine g_s (fun hb => ?_) (fun hb => ?_) | refine d_s (fun hb => ?_) (fun hb => ?_)) <;> ((try simp only [hn1, hn2] at hb); rw [hb]; try simp only [hn3, hn4] at hb)
      refine st_loop ?_
      repeat' first | refine w_op rfl rfl ?_ | refine x_p rfl ?_ | refine w_sr ?_ | refine st_nil ?_ | refine w_seq ?_ | refine st_region ?_ | refine st_block ?_ | refine w_cond ?_ | refine b_t ?_ | refine b_f ?_ | refine st_skip ?_ | refine st_exit ?_ | refine st_ret ?_ | refine st_onNormN ?_ | refine st_onNormE ?_ | refine st_onNormR ?_ | refine st_onExitN ?_ | refine st_onExitR ?_ | refine st_onExitS ?_ | refine st_onExitO (by decide) ?_ | refine g_t ?_ | refine g_f rfl ?_ | refine o_op rfl ?_ | refine w_wr ?_ | refine w_wn ?_ | refine d_c rfl ?_ | refine d_on rfl ?_ | refine d_op rfl ?_ | refine d_y ?_ | refine d_gd rfl ?_ | refine d_t ?_ | refine d_f ?_ | refine d_nil ?_ | refine w_dg rfl ?_ | refine d_mid ?_ | refine d_mj ?_ | refine d_e ?_ | refine n_0 rfl ?_ | refine d_n ?_ | refine k_p rfl rfl rfl rfl (h125) ?_ | refine w_gd rfl ?_ | ((first | refine zE1 ?_ | refine w_cl rfl rfl ?_ | refine o_cl rfl ?_ | refine d_cl rfl ?_); (conv => arg 1; try simp only [go_sem, Nat.reduceEqDiff, reduceIte, Nat.reduceAdd, Nat.reduceLeDiff, Nat.reduceMul, Int.reduceEq, Int.reduceLT, Int.reduceLE, Int.reduceNeg, Int.reduceAdd, Int.reduceSub, Nat.reduceLT, Nat.reduceBEq, Nat.reduceSub, Nat.reducePow, hz', W, R, q1, m1, a1, q2, m2, a2, q3, m3, a3, c4, s0, hs', w2, w3, w4, hbd, n4, Option.map_none, Option.isSome_none]); first | refine zE3 ?_ | refine zE2 ?_ | refine zE4 ?_ | refine zE5 ?_ | refine zE6 ?_ | refine zE7 ?_ | refine zE8 ?_) | (refine w_u true ?_; (conv => arg 1; reduce); refine zR1 ?_) | (refine b_s (fun hb => ?_) (fun hb => ?_) <;> ((try simp only [hn1, hn2, hn3, hn4] at hb); first | (exfalso; omega) | skip)) | (first | refine g_s (fun hb => ?_) (fun hb => ?_) | refine d_s (fun hb => ?_) (fun hb => ?_)) <;> ((try simp only [hn1, hn2] at hb); rw [hb]; try simp only [hn3, hn4] at hb)
      refine st_loop ?_
      repeat' first | refine w_op rfl rfl ?_ | refine x_p rfl ?_ | refine w_sr ?_ | refine st_nil ?_ | refine w_seq ?_ | refine st_region ?_ | refine st_block ?_ | refine w_cond ?_ | refine b_t ?_ | refine b_f ?_ | refine st_skip ?_ | refine st_exit ?_ | refine st_ret ?_ | refine st_onNormN ?_ | refine st_onNormE ?_ | refine st_onNormR ?_ | refine st_onExitN ?_ | refine st_onExitR ?_ | refine st_onExitS ?_ | refine st_onExitO (by decide) ?_ | refine g_t ?_ | refine g_f rfl ?_ | refine o_op rfl ?_ | refine w_wr ?_ | refine w_wn ?_ | refine d_c rfl ?_ | refine d_on rfl ?_ | refine d_op rfl ?_ | refine d_y ?_ | refine d_gd rfl ?_ | refine d_t ?_ | refine d_f ?_ | refine d_nil ?_ | refine w_dg rfl ?_ | refine d_mid ?_ | refine d_mj ?_ | refine d_e ?_ | refine n_0 rfl ?_ | refine d_n ?_ | refine k_p rfl rfl rfl rfl (h125) ?_ | refine w_gd rfl ?_ | ((first | refine zE1 ?_ | refine w_cl rfl rfl ?_ | refine o_cl rfl ?_ | refine d_cl rfl ?_); (conv => arg 1; try simp only [go_sem, Nat.reduceEqDiff, reduceIte, Nat.reduceAdd, Nat.reduceLeDiff, Nat.reduceMul, Int.reduceEq, Int.reduceLT, Int.reduceLE, Int.reduceNeg, Int.reduceAdd, Int.reduceSub, Nat.reduceLT, Nat.reduceBEq, Nat.reduceSub, Nat.reducePow, hz', W, R, q1, m1, a1, q2, m2, a2, q3, m3, a3, c4, s0, hs', w2, w3, w4, hbd, n4, Option.map_none, Option.isSome_none]); first | refine zE3 ?_ | refine zE2 ?_ | refine zE4 ?_ | refine zE5 ?_ | refine zE6 ?_ | refine zE7 ?_ | refine zE8 ?_) | (refine w_u true ?_; (conv => arg 1; reduce); refine zR1 ?_) | (refine b_s (fun hb => ?_) (fun hb => ?_) <;> ((try simp only [hn1, hn2, hn3, hn4] at hb); first | (exfalso; omega) | skip)) | (first | refine g_s (fun hb => ?_) (fun hb => ?_) | refine d_s (fun hb => ?_) (fun hb => ?_)) <;> ((try simp only [hn1, hn2] at hb); rw [hb]; try simp only [hn3, hn4] at hb)
      refine st_loop ?_
      repeat' first | refine w_op rfl rfl ?_ | refine x_p rfl ?_ | refine w_sr ?_ | refine st_nil ?_ | refine w_seq ?_ | refine st_region ?_ | refine st_block ?_ | refine w_cond ?_ | refine b_t ?_ | refine b_f ?_ | refine st_skip ?_ | refine st_exit ?_ | refine st_ret ?_ | refine st_onNormN ?_ | refine st_onNormE ?_ | refine st_onNormR ?_ | refine st_onExitN ?_ | refine st_onExitR ?_ | refine st_onExitS ?_ | refine st_onExitO (by decide) ?_ | refine g_t ?_ | refine g_f rfl ?_ | refine o_op rfl ?_ | refine w_wr ?_ | refine w_wn ?_ | refine d_c rfl ?_ | refine d_on rfl ?_ | refine d_op rfl ?_ | refine d_y ?_ | refine d_gd rfl ?_ | refine d_t ?_ | refine d_f ?_ | refine d_nil ?_ | refine w_dg rfl ?_ | refine d_mid ?_ | refine d_mj ?_ | refine d_e ?_ | refine n_0 rfl ?_ | refine d_n ?_ | refine k_p rfl rfl rfl rfl (h125) ?_ | refine w_gd rfl ?_ | ((first | refine zE1 ?_ | refine w_cl rfl rfl ?_ | refine o_cl rfl ?_ | refine d_cl rfl ?_); (conv => arg 1; try simp only [go_sem, Nat.reduceEqDiff, reduceIte, Nat.reduceAdd, Nat.reduceLeDiff, Nat.reduceMul, Int.reduceEq, Int.reduceLT, Int.reduceLE, Int.reduceNeg, Int.reduceAdd, Int.reduceSub, Nat.reduceLT, Nat.reduceBEq, Nat.reduceSub, Nat.reducePow, hz', W, R, q1, m1, a1, q2, m2, a2, q3, m3, a3, c4, s0, hs', w2, w3, w4, hbd, n4, Option.map_none, Option.isSome_none]); first | refine zE3 ?_ | refine zE2 ?_ | refine zE4 ?_ | refine zE5 ?_ | refine zE6 ?_ | refine zE7 ?_ | refine zE8 ?_) | (refine w_u true ?_; (conv => arg 1; reduce); refine zR1 ?_) | (refine b_s (fun hb => ?_) (fun hb => ?_) <;> ((try simp only [hn1, hn2, hn3, hn4] at hb); first | (exfalso; omega) | skip)) | (first | refine g_s (fun hb => ?_) (fun hb => ?_) | refine d_s (fun hb => ?_) (fun hb => ?_)) <;> ((try simp only [hn1, hn2] at hb); rw [hb]; try simp only [hn3, hn4] at hb)
      refine st_loop ?_
      repeat' first | refine w_op rfl rfl ?_ | refine x_p rfl ?_ | refine w_sr ?_ | refine st_nil ?_ | refine w_seq ?_ | refine st_region ?_ | refine st_block ?_ | refine w_cond ?_ | refine b_t ?_ | refine b_f ?_ | refine st_skip ?_ | refine st_exit ?_ | refine st_ret ?_ | refine st_onNormN ?_ | refine st_onNormE ?_ | refine st_onNormR ?_ | refine st_onExitN ?_ | refine st_onExitR ?_ | refine st_onExitS ?_ | refine st_onExitO (by decide) ?_ | refine g_t ?_ | refine g_f rfl ?_ | refine o_op rfl ?_ | refine w_wr ?_ | refine w_wn ?_ | refine d_c rfl ?_ | refine d_on rfl ?_ | refine d_op rfl ?_ | refine d_y ?_ | refine d_gd rfl ?_ | refine d_t ?_ | refine d_f ?_ | refine d_nil ?_ | refine w_dg rfl ?_ | refine d_mid ?_ | refine d_mj ?_ | refine d_e ?_ | refine n_0 rfl ?_ | refine d_n ?_ | refine k_p rfl rfl rfl rfl (h125) ?_ | refine w_gd rfl ?_ | ((first | refine zE1 ?_ | refine w_cl rfl rfl ?_ | refine o_cl rfl ?_ | refine d_cl rfl ?_); (conv => arg 1; try simp only [go_sem, Nat.reduceEqDiff, reduceIte, Nat.reduceAdd, Nat.reduceLeDiff, Nat.reduceMul, Int.reduceEq, Int.reduceLT, Int.reduceLE, Int.reduceNeg, Int.reduceAdd, Int.reduceSub, Nat.reduceLT, Nat.reduceBEq, Nat.reduceSub, Nat.reducePow, hz', W, R, q1, m1, a1, q2, m2, a2, q3, m3, a3, c4, s0, hs', w2, w3, w4, hbd, n4, Option.map_none, Option.isSome_none]); first | refine zE3 ?_ | refine zE2 ?_ | refine zE4 ?_ | refine zE5 ?_ | refine zE6 ?_ | refine zE7 ?_ | refine zE8 ?_) | (refine w_u true ?_; (conv => arg 1; reduce); refine zR1 ?_) | (refine b_s (fun hb => ?_) (fun hb => ?_) <;> ((try simp only [hn1, hn2, hn3, hn4] at hb); first | (exfalso; omega) | skip)) | (first | refine g_s (fun hb => ?_) (fun hb => ?_) | refine d_s (fun hb => ?_) (fun hb => ?_)) <;> ((try simp only [hn1, hn2] at hb); rw [hb]; try simp only [hn3, hn4] at hb)
      all_goals simp only [one1, frz_t, mapF, frz_s, Option.map_some, List.append_nil, finN, hm, hv]
      all_goals (rw [if_neg (fun h => absurd h.1 (by decide))]; rfl)
    | true =>
      rw [hm] at h125
      have hle := ((mayN_iff v).1 hm).1
      have h126 := pc81 G v hle
      have hby := bytesOf_b8s (octN_lt v hle)
      have hbl : (b8s (octN v)).length = (octN v).length := by simp [b8s]
      have hcmp := hcmp hm
      refine Pc_of (Gf_enter (C := Cf G) Tryz.func42 rfl ok42 (Nat.le_of_ble_eq_true rfl) ?_)
      simp only [Tryz.f42, Option.getD_some]
      repeat' first | refine w_op rfl rfl ?_ | refine x_p rfl ?_ | refine w_sr ?_ | refine st_nil ?_ | refine w_seq ?_ | refine st_region ?_ | refine st_block ?_ | refine w_cond ?_ | refine b_t ?_ | refine b_f ?_ | refine st_skip ?_ | refine st_exit ?_ | refine st_ret ?_ | refine st_onNormN ?_ | refine st_onNormE ?_ | refine st_onNormR ?_ | refine st_onExitN ?_ | refine st_onExitR ?_ | refine st_onExitS ?_ | refine st_onExitO (by decide) ?_ | refine g_t ?_ | refine g_f rfl ?_ | refine o_op rfl ?_ | refine w_wr ?_ | refine w_wn ?_ | refine d_c rfl ?_ | refine d_on rfl ?_ | refine d_op rfl ?_ | refine d_y ?_ | refine d_gd rfl ?_ | refine d_t ?_ | refine d_f ?_ | refine d_nil ?_ | refine w_dg rfl ?_ | refine d_mid ?_ | refine d_mj ?_ | refine d_e ?_ | refine w_gd rfl ?_ | ((first | refine zE1 ?_); (conv => arg 1; try simp only [go_sem, Nat.reduceEqDiff, reduceIte, Nat.reduceAdd, Nat.reduceLeDiff, Nat.reduceMul, Int.reduceEq, Int.reduceLT, Int.reduceLE, Int.reduceNeg, Int.reduceAdd, Int.reduceSub, Nat.reduceLT, Nat.reduceBEq, Nat.reduceSub, Nat.reducePow, hz', q0, W, R, c4, s0, hs', w2, w3, w4]); first | refine zE3 ?_ | refine zE2 ?_ | refine zE4 ?_ | refine zE5 ?_ | refine zE6 ?_ | refine zE7 ?_ | refine zE8 ?_) | (refine w_u true ?_; (conv => arg 1; reduce); refine zR1 ?_) | (refine b_s (fun hb => ?_) (fun hb => ?_) <;> ((try simp only [hn1, hn2, hn3, hn4] at hb); first | (exfalso; omega) | skip)) | (first | refine g_s (fun hb => ?_) (fun hb => ?_) | refine d_s (fun hb => ?_) (fun hb => ?_)) <;> ((try simp only [hn1, hn2] at hb); rw [hb]; try simp only [hn3, hn4] at hb)
      refine st_loop ?_
      repeat' first | refine w_op rfl rfl ?_ | refine x_p rfl ?_ | refine w_sr ?_ | refine st_nil ?_ | refine w_seq ?_ | refine st_region ?_ | refine st_block ?_ | refine w_cond ?_ | refine b_t ?_ | refine b_f ?_ | refine st_skip ?_ | refine st_exit ?_ | refine st_ret ?_ | refine st_onNormN ?_ | refine st_onNormE ?_ | refine st_onNormR ?_ | refine st_onExitN ?_ | refine st_onExitR ?_ | refine st_onExitS ?_ | refine st_onExitO (by decide) ?_ | refine g_t ?_ | refine g_f rfl ?_ | refine o_op rfl ?_ | refine w_wr ?_ | refine w_wn ?_ | refine d_c rfl ?_ | refine d_on rfl ?_ | refine d_op rfl ?_ | refine d_y ?_ | refine d_gd rfl ?_ | refine d_t ?_ | refine d_f ?_ | refine d_nil ?_ | refine w_dg rfl ?_ | refine d_mid ?_ | refine d_mj ?_ | refine d_e ?_ | refine n_0 rfl ?_ | refine d_n ?_ | refine k_p rfl rfl rfl rfl (h125) ?_ | refine k_p rfl rfl rfl rfl (h126) ?_ | refine w_gd rfl ?_ | ((first | refine zE1 ?_ | refine w_cl rfl rfl ?_ | refine o_cl rfl ?_ | refine d_cl rfl ?_); (conv => arg 1; try simp only [go_sem, Nat.reduceEqDiff, reduceIte, Nat.reduceAdd, Nat.reduceLeDiff, Nat.reduceMul, Int.reduceEq, Int.reduceLT, Int.reduceLE, Int.reduceNeg, Int.reduceAdd, Int.reduceSub, Nat.reduceLT, Nat.reduceBEq, Nat.reduceSub, Nat.reducePow, hz', W, R, q1, m1, a1, q2, m2, a2, q3, m3, a3, c4, s0, hs', w2, w3, w4, readSl, hbl, hby, hcmp, hbd, n4, Option.map_none, Option.isSome_none]); first | refine zE3 ?_ | refine zE2 ?_ | refine zE4 ?_ | refine zE5 ?_ | refine zE6 ?_ | refine zE7 ?_ | refine zE8 ?_) | (refine w_u true ?_; (conv => arg 1; reduce); refine zR1 ?_) | (refine b_s (fun hb => ?_) (fun hb => ?_) <;> ((try simp only [hn1, hn2, hn3, hn4] at hb); first | (exfalso; omega) | skip)) | (first | refine g_s (fun hb => ?_) (fun hb => ?_) | refine d_s (fun hb => ?_) (fun hb => ?_)) <;> ((try simp only [hn1, hn2] at hb); rw [hb]; try simp only [hn3, hn4] at hb)
      refine st_loop ?_
      repeat' first | refine w_op rfl rfl ?_ | refine x_p rfl ?_ | refine w_sr ?_ | refine st_nil ?_ | refine w_seq ?_ | refine st_region ?_ | refine st_block ?_ | refine w_cond ?_ | refine b_t ?_ | refine b_f ?_ | refine st_skip ?_ | refine st_exit ?_ | refine st_ret ?_ | refine st_onNormN ?_ | refine st_onNormE ?_ | refine st_onNormR ?_ | refine st_onExitN ?_ | refine st_onExitR ?_ | refine st_onExitS ?_ | refine st_onExitO (by decide) ?_ | refine g_t ?_ | refine g_f rfl ?_ | refine o_op rfl ?_ | refine w_wr ?_ | refine w_wn ?_ | refine d_c rfl ?_ | refine d_on rfl ?_ | refine d_op rfl ?_ | refine d_y ?_ | refine d_gd rfl ?_ | refine d_t ?_ | refine d_f ?_ | refine d_nil ?_ | refine w_dg rfl ?_ | refine d_mid ?_ | refine d_mj ?_ | refine d_e ?_ | refine n_0 rfl ?_ | refine d_n ?_ | refine k_p rfl rfl rfl rfl (h125) ?_ | refine k_p rfl rfl rfl rfl (h126) ?_ | refine w_gd rfl ?_ | ((first | refine zE1 ?_ | refine w_cl rfl rfl ?_ | refine o_cl rfl ?_ | refine d_cl rfl ?_); (conv => arg 1; try simp only [go_sem, Nat.reduceEqDiff, reduceIte, Nat.reduceAdd, Nat.reduceLeDiff, Nat.reduceMul, Int.reduceEq, Int.reduceLT, Int.reduceLE, Int.reduceNeg, Int.reduceAdd, Int.reduceSub, Nat.reduceLT, Nat.reduceBEq, Nat.reduceSub, Nat.reducePow, hz', W, R, q1, m1, a1, q2, m2, a2, q3, m3, a3, c4, s0, hs', w2, w3, w4, readSl, hbl, hby, hcmp, hbd, n4, Option.map_none, Option.isSome_none]); first | refine zE3 ?_ | refine zE2 ?_ | refine zE4 ?_ | refine zE5 ?_ | refine zE6 ?_ | refine zE7 ?_ | refine zE8 ?_) | (refine w_u true ?_; (conv => arg 1; reduce); refine zR1 ?_) | (refine b_s (fun hb => ?_) (fun hb => ?_) <;> ((try simp only [hn1, hn2, hn3, hn4] at hb); first | (exfalso; omega) | skip)) | (first | refine g_s (fun hb => ?_) (fun hb => ?_) | refine d_s (fun hb => ?_) (fun hb => ?_)) <;> ((try simp only [hn1, hn2] at hb); rw [hb]; try simp only [hn3, hn4] at hb)
      refine st_loop ?_
      repeat' first | refine w_op rfl rfl ?_ | refine x_p rfl ?_ | refine w_sr ?_ | refine st_nil ?_ | refine w_seq ?_ | refine st_region ?_ | refine st_block ?_ | refine w_cond ?_ | refine b_t ?_ | refine b_f ?_ | refine st_skip ?_ | refine st_exit ?_ | refine st_ret ?_ | refine st_onNormN ?_ | refine st_onNormE ?_ | refine st_onNormR ?_ | refine st_onExitN ?_ | refine st_onExitR ?_ | refine st_onExitS ?_ | refine st_onExitO (by decide) ?_ | refine g_t ?_ | refine g_f rfl ?_ | refine o_op rfl ?_ | refine w_wr ?_ | refine w_wn ?_ | refine d_c rfl ?_ | refine d_on rfl ?_ | refine d_op rfl ?_ | refine d_y ?_ | refine d_gd rfl ?_ | refine d_t ?_ | refine d_f ?_ | refine d_nil ?_ | refine w_dg rfl ?_ | refine d_mid ?_ | refine d_mj ?_ | refine d_e ?_ | refine n_0 rfl ?_ | refine d_n ?_ | refine k_p rfl rfl rfl rfl (h125) ?_ | refine k_p rfl rfl rfl rfl (h126) ?_ | refine w_gd rfl ?_ | ((first | refine zE1 ?_ | refine w_cl rfl rfl ?_ | refine o_cl rfl ?_ | refine d_cl rfl ?_); (conv => arg 1; try simp only [go_sem, Nat.reduceEqDiff, reduceIte, Nat.reduceAdd, Nat.reduceLeDiff, Nat.reduceMul, Int.reduceEq, Int.reduceLT, Int.reduceLE, Int.reduceNeg, Int.reduceAdd, Int.reduceSub, Nat.reduceLT, Nat.reduceBEq, Nat.reduceSub, Nat.reducePow, hz', W, R, q1, m1, a1, q2, m2, a2, q3, m3, a3, c4, s0, hs', w2, w3, w4, readSl, hbl, hby, hcmp, hbd, n4, Option.map_none, Option.isSome_none]); first | refine zE3 ?_ | refine zE2 ?_ | refine zE4 ?_ | refine zE5 ?_ | refine zE6 ?_ | refine zE7 ?_ | refine zE8 ?_) | (refine w_u true ?_; (conv => arg 1; reduce); refine zR1 ?_) | (refine b_s (fun hb => ?_) (fun hb => ?_) <;> ((try simp only [hn1, hn2, hn3, hn4] at hb); first | (exfalso; omega) | skip)) | (first | refine g_s (fun hb => ?_) (fun hb => ?_) | refine d_s (fun hb => ?_) (fun hb => ?_)) <;> ((try simp only [hn1, hn2] at hb); rw [hb]; try simp only [hn3, hn4] at hb)
      refine st_loop ?_
      repeat' first | refine w_op rfl rfl ?_ | refine x_p rfl ?_ | refine w_sr ?_ | refine st_nil ?_ | refine w_seq ?_ | refine st_region ?_ | refine st_block ?_ | refine w_cond ?_ | refine b_t ?_ | refine b_f ?_ | refine st_skip ?_ | refine st_exit ?_ | refine st_ret ?_ | refine st_onNormN ?_ | refine st_onNormE ?_ | refine st_onNormR ?_ | refine st_onExitN ?_ | refine st_onExitR ?_ | refine st_onExitS ?_ | refine st_onExitO (by decide) ?_ | refine g_t ?_ | refine g_f rfl ?_ | refine o_op rfl ?_ | refine w_wr ?_ | refine w_wn ?_ | refine d_c rfl ?_ | refine d_on rfl ?_ | refine d_op rfl ?_ | refine d_y ?_ | refine d_gd rfl ?_ | refine d_t ?_ | refine d_f ?_ | refine d_nil ?_ | refine w_dg rfl ?_ | refine d_mid ?_ | refine d_mj ?_ | refine d_e ?_ | refine n_0 rfl ?_ | refine d_n ?_ | refine k_p rfl rfl rfl rfl (h125) ?_ | refine k_p rfl rfl rfl rfl (h126) ?_ | refine w_gd rfl ?_ | ((first | refine zE1 ?_ | refine w_cl rfl rfl ?_ | refine o_cl rfl ?_ | refine d_cl rfl ?_); (conv => arg 1; try simp only [go_sem, Nat.reduceEqDiff, reduceIte, Nat.reduceAdd, Nat.reduceLeDiff, Nat.reduceMul, Int.reduceEq, Int.reduceLT, Int.reduceLE, Int.reduceNeg, Int.reduceAdd, Int.reduceSub, Nat.reduceLT, Nat.reduceBEq, Nat.reduceSub, Nat.reducePow, hz', W, R, q1, m1, a1, q2, m2, a2, q3, m3, a3, c4, s0, hs', w2, w3, w4, readSl, hbl, hby, hcmp, hbd, n4, Option.map_none, Option.isSome_none]); first | refine zE3 ?_ | refine zE2 ?_ | refine zE4 ?_ | refine zE5 ?_ | refine zE6 ?_ | refine zE7 ?_ | refine zE8 ?_) | (refine w_u true ?_; (conv => arg 1; reduce); refine zR1 ?_) | (refine b_s (fun hb => ?_) (fun hb => ?_) <;> ((try simp only [hn1, hn2, hn3, hn4] at hb); first | (exfalso; omega) | skip)) | (first | refine g_s (fun hb => ?_) (fun hb => ?_) | refine d_s (fun hb => ?_) (fun hb => ?_)) <;> ((try simp only [hn1, hn2] at hb); rw [hb]; try simp only [hn3, hn4] at hb)
      all_goals simp only [one1, frz_t, mapF, frz_s, Option.map_some, List.append_nil, finN, hm, hv]
      all_goals first | (rw [if_pos ⟨trivial, hb⟩]; rfl) | (rw [if_neg (fun h => hb h.2)]; rfl)
end Go.Proofs.Bv
namespace Go.Proofs.Bv
open Go
theorem ok16 : codeOk 26 (Tryz.f16.body.getD .skip) = true := by kernel_rfl
theorem ok166 : codeOk 17 (Tryz.f166.body.getD .skip) = true := by kernel_rfl
set_option maxRecDepth 100000 in
theorem pc42 (G : Nat → Option (List AV)) (s : ByteArray) (hn : s.size ≤ 140737488355328) : Pc (Cf G) 42 [.sc (.string s)] (.tup [.sc (.int .i64 (firstS s).1), .sc (.int .i64 (firstS s).2)]) := by
  by_cases hz : s.size = 0
  · have hz' : (s.size : Int) = 0 := by omega
    unfold firstS firstN
    rw [if_pos hz]
    refine Pc_of (Gf_enter (C := Cf G) Tryz.func42 rfl ok42 (Nat.le_of_ble_eq_true rfl) ?_)
    simp only [Tryz.f42, Option.getD_some]
    repeat' first | refine w_op rfl rfl ?_ | refine x_p rfl ?_ | refine w_sr ?_ | refine st_nil ?_ | refine w_seq ?_ | refine st_region ?_ | refine st_block ?_ | refine w_cond ?_ | refine b_t ?_ | refine b_f ?_ | refine st_skip ?_ | refine st_exit ?_ | refine st_ret ?_ | refine st_onNormN ?_ | refine st_onNormE ?_ | refine st_onNormR ?_ | refine st_onExitN ?_ | refine st_onExitR ?_ | refine st_onExitS ?_ | refine st_onExitO (by decide) ?_ | refine g_t ?_ | refine g_f rfl ?_ | refine o_op rfl ?_ | refine w_wr ?_ | refine w_wn ?_ | refine d_c rfl ?_ | refine d_on rfl ?_ | refine d_op rfl ?_ | refine d_y ?_ | refine d_gd rfl ?_ | refine d_t ?_ | refine d_f ?_ | refine d_nil ?_ | refine w_dr rfl ?_ | refine d_q ?_ | refine w_gd rfl ?_ | ((first | refine zE1 ?_); (conv => arg 1; try simp only [go_sem, Nat.reduceEqDiff, reduceIte, Nat.reduceAdd, Nat.reduceLeDiff, Nat.reduceMul, Int.reduceEq, Int.reduceLT, Int.reduceLE, Int.reduceNeg, Int.reduceAdd, Int.reduceSub, Nat.reduceLT, Nat.reduceBEq, Nat.reduceSub, Nat.reducePow, hz']); first | refine zE3 ?_ | refine zE2 ?_ | refine zE4 ?_ | refine zE5 ?_ | refine zE6 ?_ | refine zE7 ?_ | refine zE8 ?_) | (refine w_u false ?_; (conv => arg 1; reduce); refine zR1 ?_) | (refine b_s (fun hb => ?_) (fun hb => ?_) <;> ((try simp only [hn1, hn2, hn3, hn4] at hb); first | (exfalso; omega) | skip)) | (first | refine g_s (fun hb => ?_) (fun hb => ?_) | refine d_s (fun hb => ?_) (fun hb => ?_)) <;> ((try simp only [hn1, hn2] at hb); rw [hb]; try simp only [hn3, hn4] at hb)
    rfl
  · by_cases c4 : 240 ≤ bAt s 0
    · exact pc42_4 G s c4 hz hn
    · by_cases c3 : 224 ≤ bAt s 0
      · exact pc42_3 G s c4 c3 hz hn
      · by_cases c2 : 192 ≤ bAt s 0
        · exact pc42_2 G s c4 c3 c2 hz hn
        · exact pc42_1 G s c4 c3 c2 hz hn
theorem first_at (s : ByteArray) (p : Nat) (hp : p < s.size) : (firstS (s.extract p s.size)).2 = if runeAt s p < 0 then 0 else wideAt s p := by
  have hs : (s.extract p s.size).size = s.size - p := by simp
  have h0 : ¬ (s.extract p s.size).size = 0 := by omega
  have e : Lib.decodeGo (s.extract p s.size) = Lib.decodeN (s.extract p s.size).size (bAt (s.extract p s.size) 0) (bAt (s.extract p s.size) 1) (bAt (s.extract p s.size) 2) (bAt (s.extract p s.size) 3) := by
    unfold Lib.decodeGo
    rw [if_neg h0, Lib.decode_at]
    rfl
  unfold firstS
  rw [first_good _ _ _ _ _ (by omega) (bAt_lt _ _) (bAt_lt _ _) (bAt_lt _ _) (bAt_lt _ _), ← e]
  unfold goodN runeAt wideAt
  by_cases hc : (Lib.decodeGo (s.extract p s.size)).1 = 65533 ∧ (Lib.decodeGo (s.extract p s.size)).2 = 1
  · rw [if_pos hc, if_pos (by omega)]
  · rw [if_neg hc, if_neg (by omega)]
set_option maxHeartbeats 2000000 in
set_option maxRecDepth 100000 in
theorem pc16 (G : Nat → Option (List AV)) (s : ByteArray) (hn : s.size ≤ 140737488355328) : Pc (Cf G) 16 [.sc (.string s)] (.tup [.sc (.int .i64 (chkFrom s 0).1), .sc (.int .i64 (chkFrom s 0).2)]) := by
  refine Pc_of (Gf_enter (C := Cf G) Tryz.func16 rfl ok16 (Nat.le_of_ble_eq_true rfl) ?_)
  simp only [Tryz.f16, Option.getD_some]
  repeat' first | refine w_op rfl rfl ?_ | refine x_p rfl ?_ | refine w_sr ?_ | refine st_nil ?_ | refine w_seq ?_ | refine st_region ?_ | refine st_block ?_ | refine w_cond ?_ | refine b_t ?_ | refine b_f ?_ | refine st_skip ?_ | refine st_exit ?_ | refine st_ret ?_ | refine st_onNormN ?_ | refine st_onNormE ?_ | refine st_onNormR ?_ | refine st_onExitN ?_ | refine st_onExitR ?_ | refine st_onExitS ?_ | refine st_onExitO (by decide) ?_ | refine g_t ?_ | refine g_f rfl ?_ | refine o_op rfl ?_ | refine w_wr ?_ | refine w_wn ?_ | refine d_c rfl ?_ | refine d_on rfl ?_ | refine d_op rfl ?_ | refine d_y ?_ | refine d_gd rfl ?_ | refine d_t ?_ | refine d_f ?_ | refine d_nil ?_ | refine w_dr rfl ?_ | refine d_q ?_ | refine w_gd rfl ?_ | ((first | refine zE1 ?_); (conv => arg 1; try simp only [go_sem, Nat.reduceEqDiff, reduceIte, Nat.reduceAdd, Nat.reduceLeDiff, Nat.reduceMul, Int.reduceEq, Int.reduceLT, Int.reduceLE, Int.reduceNeg, Int.reduceAdd, Int.reduceSub, Nat.reduceLT, Nat.reduceBEq, Nat.reduceSub, Nat.reducePow]); first | refine zE3 ?_ | refine zE2 ?_ | refine zE4 ?_ | refine zE5 ?_ | refine zE6 ?_ | refine zE7 ?_ | refine zE8 ?_) | (refine w_u false ?_; (conv => arg 1; reduce); refine zR1 ?_) | (refine b_s (fun hb => ?_) (fun hb => ?_) <;> ((try simp only [hn1, hn2, hn3, hn4] at hb); first | (exfalso; omega) | skip)) | (first | refine g_s (fun hb => ?_) (fun hb => ?_) | refine d_s (fun hb => ?_) (fun hb => ?_)) <;> ((try simp only [hn1, hn2] at hb); rw [hb]; try simp only [hn3, hn4] at hb)
  refine Gc_loop_inv (fun m st => ∃ p : Nat, p ≤ s.size ∧ m = s.size - p ∧ chkFrom s p = chkFrom s 0 ∧ st.T 0 = .sc (.string s) ∧ st.T 4 = .sc (.int .i64 p)) ?_ s.size _ ⟨0, by omega, by omega, rfl, ?_⟩
  · rintro m ⟨T, h, n⟩ ⟨p, hp, rfl, hch, h0, h4⟩
    simp only at h0 h4
    by_cases hlt : p < s.size
    · have hlt' : (p : Int) < (s.size : Int) := by omega
      have hst : chkFrom s p = if runeAt s p < 0 then ((p : Int), 61) else chkFrom s (p + wideAt s p) := by rw [chkFrom, dif_pos hlt]
      have hbd : bnds s.size (some (.sc (.int .i64 (p : Int)))) none = some (p, s.size) := by
        simp only [bnds, asNat]
        rw [if_pos (by omega)]
        simp
        omega
      have hf := pc42 G (s.extract p s.size) (by simp; omega)
      have hfa := first_at s p hlt
      have hwr := wide_rng s p hlt
      by_cases hr : runeAt s p < 0
      · rw [if_pos hr] at hfa hst
        rw [hfa] at hf
        repeat' first | refine w_op rfl rfl ?_ | refine x_p rfl ?_ | refine w_sr ?_ | refine st_nil ?_ | refine w_seq ?_ | refine st_region ?_ | refine st_block ?_ | refine w_cond ?_ | refine b_t ?_ | refine b_f ?_ | refine st_skip ?_ | refine st_exit ?_ | refine st_ret ?_ | refine st_onNormN ?_ | refine st_onNormE ?_ | refine st_onNormR ?_ | refine st_onExitN ?_ | refine st_onExitR ?_ | refine st_onExitS ?_ | refine st_onExitO (by decide) ?_ | refine g_t ?_ | refine g_f rfl ?_ | refine o_op rfl ?_ | refine w_wr ?_ | refine w_wn ?_ | refine d_c rfl ?_ | refine d_on rfl ?_ | refine d_op rfl ?_ | refine d_y ?_ | refine d_gd rfl ?_ | refine d_t ?_ | refine d_f ?_ | refine d_nil ?_ | refine w_dr rfl ?_ | refine d_q ?_ | refine n_0 rfl ?_ | refine d_n ?_ | refine k_p rfl rfl rfl rfl (hf) ?_ | refine w_gd rfl ?_ | ((first | refine zE1 ?_ | refine w_cl rfl rfl ?_ | refine o_cl rfl ?_ | refine d_cl rfl ?_); (conv => arg 1; try simp only [go_sem, Nat.reduceEqDiff, reduceIte, Nat.reduceAdd, Nat.reduceLeDiff, Nat.reduceMul, Int.reduceEq, Int.reduceLT, Int.reduceLE, Int.reduceNeg, Int.reduceAdd, Int.reduceSub, Nat.reduceLT, Nat.reduceBEq, Nat.reduceSub, Nat.reducePow, h0, h4, hlt', hbd, Option.map_none, Option.isSome_none, Int.natCast_zero]); first | refine zE3 ?_ | refine zE2 ?_ | refine zE4 ?_ | refine zE5 ?_ | refine zE6 ?_ | refine zE7 ?_ | refine zE8 ?_) | (refine w_u false ?_; (conv => arg 1; reduce); refine zR1 ?_) | (refine b_s (fun hb => ?_) (fun hb => ?_) <;> ((try simp only [hn1, hn2, hn3, hn4] at hb); first | (exfalso; omega) | skip)) | (first | refine g_s (fun hb => ?_) (fun hb => ?_) | refine d_s (fun hb => ?_) (fun hb => ?_)) <;> ((try simp only [hn1, hn2] at hb); rw [hb]; try simp only [hn3, hn4] at hb)
        rw [← hch, hst]
        rfl
      · rw [if_neg hr] at hfa hst
        rw [hfa] at hf
        have hne : ¬ ((wideAt s p : Nat) : Int) = 0 := by omega
        have hadd : IntKind.i64.wrap ((p : Int) + ((wideAt s p : Nat) : Int)) = ((p + wideAt s p : Nat) : Int) := by rw [i64 (by omega) (by omega)]; omega
        repeat' first | refine w_op rfl rfl ?_ | refine x_p rfl ?_ | refine w_sr ?_ | refine st_nil ?_ | refine w_seq ?_ | refine st_region ?_ | refine st_block ?_ | refine w_cond ?_ | refine b_t ?_ | refine b_f ?_ | refine st_skip ?_ | refine st_exit ?_ | refine st_ret ?_ | refine st_onNormN ?_ | refine st_onNormE ?_ | refine st_onNormR ?_ | refine st_onExitN ?_ | refine st_onExitR ?_ | refine st_onExitS ?_ | refine st_onExitO (by decide) ?_ | refine g_t ?_ | refine g_f rfl ?_ | refine o_op rfl ?_ | refine w_wr ?_ | refine w_wn ?_ | refine d_c rfl ?_ | refine d_on rfl ?_ | refine d_op rfl ?_ | refine d_y ?_ | refine d_gd rfl ?_ | refine d_t ?_ | refine d_f ?_ | refine d_nil ?_ | refine w_dr rfl ?_ | refine d_q ?_ | refine n_0 rfl ?_ | refine d_n ?_ | refine k_p rfl rfl rfl rfl (hf) ?_ | refine w_gd rfl ?_ | ((first | refine zE1 ?_ | refine w_cl rfl rfl ?_ | refine o_cl rfl ?_ | refine d_cl rfl ?_); (conv => arg 1; try simp only [go_sem, Nat.reduceEqDiff, reduceIte, Nat.reduceAdd, Nat.reduceLeDiff, Nat.reduceMul, Int.reduceEq, Int.reduceLT, Int.reduceLE, Int.reduceNeg, Int.reduceAdd, Int.reduceSub, Nat.reduceLT, Nat.reduceBEq, Nat.reduceSub, Nat.reducePow, h0, h4, hlt', hbd, Option.map_none, Option.isSome_none, hne, hadd]); first | refine zE3 ?_ | refine zE2 ?_ | refine zE4 ?_ | refine zE5 ?_ | refine zE6 ?_ | refine zE7 ?_ | refine zE8 ?_) | (refine w_u false ?_; (conv => arg 1; reduce); refine zR1 ?_) | (refine b_s (fun hb => ?_) (fun hb => ?_) <;> ((try simp only [hn1, hn2, hn3, hn4] at hb); first | (exfalso; omega) | skip)) | (first | refine g_s (fun hb => ?_) (fun hb => ?_) | refine d_s (fun hb => ?_) (fun hb => ?_)) <;> ((try simp only [hn1, hn2] at hb); rw [hb]; try simp only [hn3, hn4] at hb)
        refine ⟨s.size - (p + wideAt s p), by omega, p + wideAt s p, by omega, rfl, by rw [← hst]; exact hch, ?_, ?_⟩
        · simp only [vop, val, argsT, upd_ap, Nat.reduceEqDiff, if_true, if_false, ite_true, ite_false, reduceIte, loadAt, loadA, AV.cells, AV.one, List.all_cons, List.all_nil, ofV, ofCell, plain, List.getElem?_cons_zero, List.getElem?_cons_succ, List.getElem?_toArray, Option.getD_some, Bool.not_true, Bool.not_false, Bool.false_eq_true, Bool.and_true, Bool.true_and, Bool.and_self, Nat.zero_add, Option.map_some, Option.bind_some, List.map_cons, List.map_nil, ev_add, ev_sub, ev_mul, ev_lss, ev_leq, ev_gtr, ev_geq, ev_eql, ev_neq, ev_seql, ev_sneq, ev_sleq, ev_slss, ev_not, ev_min, ev_max, asNat_nat, asNat_zero, asNat_one, asNat_two, asNat_three, vb_len, List.length_cons, List.length_nil, Nat.reduceAdd, Nat.reduceLeDiff, Nat.reduceMul, Int.reduceEq, Int.reduceLT, Int.reduceLE, Int.reduceNeg, Int.reduceAdd, Int.reduceSub, Nat.reduceLT, decide_true, decide_false, not_true_eq_false, not_false_eq_true, and_self, and_true, true_and, storeA, List.take_zero, List.drop_succ_cons, List.drop_zero, List.nil_append, List.append_nil, List.take_succ_cons, List.cons_append, cut_cons, cut_zero, cut_skip, tAt, hHide, hAt, upsAt, List.contains_cons, List.contains_nil, Nat.reduceBEq, Bool.or_true, Bool.true_or, Bool.or_false, Bool.false_or, Bool.or_self, Bool.and_true, Bool.true_and, Bool.and_false, Bool.false_and, beq_self_eq_true (α := Nat), Option.some_beq_some, Option.none_beq_some, Option.some_beq_none, Bool.false_eq_true, List.all_nil, touch, touchB, Nat.sub_self, List.range'_zero, Nat.add_sub_cancel_left, List.range'_one, h0]
        · simp only [vop, val, argsT, upd_ap, Nat.reduceEqDiff, if_true, if_false, ite_true, ite_false, reduceIte, loadAt, loadA, AV.cells, AV.one, List.all_cons, List.all_nil, ofV, ofCell, plain, List.getElem?_cons_zero, List.getElem?_cons_succ, List.getElem?_toArray, Option.getD_some, Bool.not_true, Bool.not_false, Bool.false_eq_true, Bool.and_true, Bool.true_and, Bool.and_self, Nat.zero_add, Option.map_some, Option.bind_some, List.map_cons, List.map_nil, ev_add, ev_sub, ev_mul, ev_lss, ev_leq, ev_gtr, ev_geq, ev_eql, ev_neq, ev_seql, ev_sneq, ev_sleq, ev_slss, ev_not, ev_min, ev_max, asNat_nat, asNat_zero, asNat_one, asNat_two, asNat_three, vb_len, List.length_cons, List.length_nil, Nat.reduceAdd, Nat.reduceLeDiff, Nat.reduceMul, Int.reduceEq, Int.reduceLT, Int.reduceLE, Int.reduceNeg, Int.reduceAdd, Int.reduceSub, Nat.reduceLT, decide_true, decide_false, not_true_eq_false, not_false_eq_true, and_self, and_true, true_and, storeA, List.take_zero, List.drop_succ_cons, List.drop_zero, List.nil_append, List.append_nil, List.take_succ_cons, List.cons_append, cut_cons, cut_zero, cut_skip, tAt, hHide, hAt, upsAt, List.contains_cons, List.contains_nil, Nat.reduceBEq, Bool.or_true, Bool.true_or, Bool.or_false, Bool.false_or, Bool.or_self, Bool.and_true, Bool.true_and, Bool.and_false, Bool.false_and, beq_self_eq_true (α := Nat), Option.some_beq_some, Option.none_beq_some, Option.some_beq_none, Bool.false_eq_true, List.all_nil, touch, touchB, Nat.sub_self, List.range'_zero, Nat.add_sub_cancel_left, List.range'_one]
    · have hge : ¬ (p : Int) < (s.size : Int) := by omega
      have hst : chkFrom s p = ((s.size : Int), 0) := by rw [chkFrom, dif_neg (by omega)]
      repeat' first | refine w_op rfl rfl ?_ | refine x_p rfl ?_ | refine w_sr ?_ | refine st_nil ?_ | refine w_seq ?_ | refine st_region ?_ | refine st_block ?_ | refine w_cond ?_ | refine b_t ?_ | refine b_f ?_ | refine st_skip ?_ | refine st_exit ?_ | refine st_ret ?_ | refine st_onNormN ?_ | refine st_onNormE ?_ | refine st_onNormR ?_ | refine st_onExitN ?_ | refine st_onExitR ?_ | refine st_onExitS ?_ | refine st_onExitO (by decide) ?_ | refine g_t ?_ | refine g_f rfl ?_ | refine o_op rfl ?_ | refine w_wr ?_ | refine w_wn ?_ | refine d_c rfl ?_ | refine d_on rfl ?_ | refine d_op rfl ?_ | refine d_y ?_ | refine d_gd rfl ?_ | refine d_t ?_ | refine d_f ?_ | refine d_nil ?_ | refine w_dr rfl ?_ | refine d_q ?_ | refine w_gd rfl ?_ | ((first | refine zE1 ?_); (conv => arg 1; try simp only [go_sem, Nat.reduceEqDiff, reduceIte, Nat.reduceAdd, Nat.reduceLeDiff, Nat.reduceMul, Int.reduceEq, Int.reduceLT, Int.reduceLE, Int.reduceNeg, Int.reduceAdd, Int.reduceSub, Nat.reduceLT, Nat.reduceBEq, Nat.reduceSub, Nat.reducePow, h0, h4, hge]); first | refine zE3 ?_ | refine zE2 ?_ | refine zE4 ?_ | refine zE5 ?_ | refine zE6 ?_ | refine zE7 ?_ | refine zE8 ?_) | (refine w_u false ?_; (conv => arg 1; reduce); refine zR1 ?_) | (refine b_s (fun hb => ?_) (fun hb => ?_) <;> ((try simp only [hn1, hn2, hn3, hn4] at hb); first | (exfalso; omega) | skip)) | (first | refine g_s (fun hb => ?_) (fun hb => ?_) | refine d_s (fun hb => ?_) (fun hb => ?_)) <;> ((try simp only [hn1, hn2] at hb); rw [hb]; try simp only [hn3, hn4] at hb)
      rw [← hch, hst]
      rfl
  · simp [upd_ap, argsT]
theorem chk_codes (s : ByteArray) (p : Nat) : (chkFrom s p).2 = 0 ∨ (chkFrom s p).2 = 61 := by
  induction h : s.size - p using Nat.strongRecOn generalizing p with
  | ind m ih =>
    rw [chkFrom]
    split
    · rename_i hp
      split
      · exact .inr rfl
      · have := wide_rng s p hp
        exact ih (s.size - (p + wideAt s p)) (by omega) (p + wideAt s p) rfl
    · exact .inl rfl
set_option maxRecDepth 100000 in
theorem pc166 (G : Nat → Option (List AV)) (s : ByteArray) (hn : s.size ≤ 140737488355328) : Pc (Cf G) 166 [.sc (.string s)] (.sc (.int .i64 (letters s))) := by
  have hc := pc16 G s hn
  have hcc := chk_codes s 0
  unfold letters
  generalize chkFrom s 0 = e at hc hcc
  obtain ⟨a, e⟩ := e
  simp only at hc hcc
  refine Pc_of (Gf_enter (C := Cf G) Tryz.func166 rfl ok166 (Nat.le_of_ble_eq_true rfl) ?_)
  simp only [Tryz.f166, Option.getD_some]
  by_cases he : e = 0
  · by_cases hl : 16384 < (s.size : Int)
    · repeat' first | refine w_op rfl rfl ?_ | refine x_p rfl ?_ | refine w_sr ?_ | refine st_nil ?_ | refine w_seq ?_ | refine st_region ?_ | refine st_block ?_ | refine w_cond ?_ | refine b_t ?_ | refine b_f ?_ | refine st_skip ?_ | refine st_exit ?_ | refine st_ret ?_ | refine st_onNormN ?_ | refine st_onNormE ?_ | refine st_onNormR ?_ | refine st_onExitN ?_ | refine st_onExitR ?_ | refine st_onExitS ?_ | refine st_onExitO (by decide) ?_ | refine g_t ?_ | refine g_f rfl ?_ | refine o_op rfl ?_ | refine w_wr ?_ | refine w_wn ?_ | refine d_c rfl ?_ | refine d_on rfl ?_ | refine d_op rfl ?_ | refine d_y ?_ | refine d_gd rfl ?_ | refine d_t ?_ | refine d_f ?_ | refine d_nil ?_ | refine w_dr rfl ?_ | refine d_q ?_ | refine n_0 rfl ?_ | refine d_n ?_ | refine k_p rfl rfl rfl rfl (hc) ?_ | refine w_gd rfl ?_ | ((first | refine zE1 ?_ | refine w_cl rfl rfl ?_ | refine o_cl rfl ?_ | refine d_cl rfl ?_); (conv => arg 1; try simp only [go_sem, Nat.reduceEqDiff, reduceIte, Nat.reduceAdd, Nat.reduceLeDiff, Nat.reduceMul, Int.reduceEq, Int.reduceLT, Int.reduceLE, Int.reduceNeg, Int.reduceAdd, Int.reduceSub, Nat.reduceLT, Nat.reduceBEq, Nat.reduceSub, Nat.reducePow, he, hl]); first | refine zE3 ?_ | refine zE2 ?_ | refine zE4 ?_ | refine zE5 ?_ | refine zE6 ?_ | refine zE7 ?_ | refine zE8 ?_) | (refine w_u false ?_; (conv => arg 1; reduce); refine zR1 ?_) | (refine b_s (fun hb => ?_) (fun hb => ?_) <;> ((try simp only [hn1, hn2, hn3, hn4] at hb); first | (exfalso; omega) | skip)) | (first | refine g_s (fun hb => ?_) (fun hb => ?_) | refine d_s (fun hb => ?_) (fun hb => ?_)) <;> ((try simp only [hn1, hn2] at hb); rw [hb]; try simp only [hn3, hn4] at hb)
      simp only [one1, frz_sc, Option.map_some, he, hl, if_true]
    · repeat' first | refine w_op rfl rfl ?_ | refine x_p rfl ?_ | refine w_sr ?_ | refine st_nil ?_ | refine w_seq ?_ | refine st_region ?_ | refine st_block ?_ | refine w_cond ?_ | refine b_t ?_ | refine b_f ?_ | refine st_skip ?_ | refine st_exit ?_ | refine st_ret ?_ | refine st_onNormN ?_ | refine st_onNormE ?_ | refine st_onNormR ?_ | refine st_onExitN ?_ | refine st_onExitR ?_ | refine st_onExitS ?_ | refine st_onExitO (by decide) ?_ | refine g_t ?_ | refine g_f rfl ?_ | refine o_op rfl ?_ | refine w_wr ?_ | refine w_wn ?_ | refine d_c rfl ?_ | refine d_on rfl ?_ | refine d_op rfl ?_ | refine d_y ?_ | refine d_gd rfl ?_ | refine d_t ?_ | refine d_f ?_ | refine d_nil ?_ | refine w_dr rfl ?_ | refine d_q ?_ | refine n_0 rfl ?_ | refine d_n ?_ | refine k_p rfl rfl rfl rfl (hc) ?_ | refine w_gd rfl ?_ | ((first | refine zE1 ?_ | refine w_cl rfl rfl ?_ | refine o_cl rfl ?_ | refine d_cl rfl ?_); (conv => arg 1; try simp only [go_sem, Nat.reduceEqDiff, reduceIte, Nat.reduceAdd, Nat.reduceLeDiff, Nat.reduceMul, Int.reduceEq, Int.reduceLT, Int.reduceLE, Int.reduceNeg, Int.reduceAdd, Int.reduceSub, Nat.reduceLT, Nat.reduceBEq, Nat.reduceSub, Nat.reducePow, he, hl]); first | refine zE3 ?_ | refine zE2 ?_ | refine zE4 ?_ | refine zE5 ?_ | refine zE6 ?_ | refine zE7 ?_ | refine zE8 ?_) | (refine w_u false ?_; (conv => arg 1; reduce); refine zR1 ?_) | (refine b_s (fun hb => ?_) (fun hb => ?_) <;> ((try simp only [hn1, hn2, hn3, hn4] at hb); first | (exfalso; omega) | skip)) | (first | refine g_s (fun hb => ?_) (fun hb => ?_) | refine d_s (fun hb => ?_) (fun hb => ?_)) <;> ((try simp only [hn1, hn2] at hb); rw [hb]; try simp only [hn3, hn4] at hb)
      simp only [one1, frz_sc, Option.map_some, he, hl, if_true, if_false]
  · have e61 : e = 61 := by omega
    subst e61
    repeat' first | refine w_op rfl rfl ?_ | refine x_p rfl ?_ | refine w_sr ?_ | refine st_nil ?_ | refine w_seq ?_ | refine st_region ?_ | refine st_block ?_ | refine w_cond ?_ | refine b_t ?_ | refine b_f ?_ | refine st_skip ?_ | refine st_exit ?_ | refine st_ret ?_ | refine st_onNormN ?_ | refine st_onNormE ?_ | refine st_onNormR ?_ | refine st_onExitN ?_ | refine st_onExitR ?_ | refine st_onExitS ?_ | refine st_onExitO (by decide) ?_ | refine g_t ?_ | refine g_f rfl ?_ | refine o_op rfl ?_ | refine w_wr ?_ | refine w_wn ?_ | refine d_c rfl ?_ | refine d_on rfl ?_ | refine d_op rfl ?_ | refine d_y ?_ | refine d_gd rfl ?_ | refine d_t ?_ | refine d_f ?_ | refine d_nil ?_ | refine w_dr rfl ?_ | refine d_q ?_ | refine n_0 rfl ?_ | refine d_n ?_ | refine k_p rfl rfl rfl rfl (hc) ?_ | refine w_gd rfl ?_ | ((first | refine zE1 ?_ | refine w_cl rfl rfl ?_ | refine o_cl rfl ?_ | refine d_cl rfl ?_); (conv => arg 1; try simp only [go_sem, Nat.reduceEqDiff, reduceIte, Nat.reduceAdd, Nat.reduceLeDiff, Nat.reduceMul, Int.reduceEq, Int.reduceLT, Int.reduceLE, Int.reduceNeg, Int.reduceAdd, Int.reduceSub, Nat.reduceLT, Nat.reduceBEq, Nat.reduceSub, Nat.reducePow]); first | refine zE3 ?_ | refine zE2 ?_ | refine zE4 ?_ | refine zE5 ?_ | refine zE6 ?_ | refine zE7 ?_ | refine zE8 ?_) | (refine w_u false ?_; (conv => arg 1; reduce); refine zR1 ?_) | (refine b_s (fun hb => ?_) (fun hb => ?_) <;> ((try simp only [hn1, hn2, hn3, hn4] at hb); first | (exfalso; omega) | skip)) | (first | refine g_s (fun hb => ?_) (fun hb => ?_) | refine d_s (fun hb => ?_) (fun hb => ?_)) <;> ((try simp only [hn1, hn2] at hb); rw [hb]; try simp only [hn3, hn4] at hb)
    simp [one1, frz_sc]
end Go.Proofs.Bv
namespace Go.Proofs.Bv
open Go
def unS : AV → Option ByteArray
  | .sc (.string b) => some b
  | _ => none
theorem unS_strs (l : List ByteArray) : (strs l).mapM unS = some l := by
  induction l with
  | nil => rfl
  | cons x l ih => simp only [strs, List.map_cons, List.mapM_cons, unS] at ih ⊢; rw [ih]; rfl
theorem strs_of : (cs : List AV) → (l : List ByteArray) → cs.mapM unS = some l → cs = strs l
  | [], l, h => by simp at h; subst h; rfl
  | a :: cs, l, h => by
    simp only [List.mapM_cons, Option.bind_eq_bind, Option.bind_eq_some_iff] at h
    obtain ⟨b, hb, l', hl, h⟩ := h
    have := strs_of cs l' hl
    subst this
    injection h with h
    subst h
    unfold unS at hb
    split at hb <;> try (cases hb; done)
    injection hb with hb
    subst hb
    rfl
structure WOk (l : List ByteArray) : Prop where
  len : l.length ≤ 64
  size : ∀ w ∈ l, w.size ≤ 140737488355328
  run : runV l l.length ps0 = true
open Classical in
noncomputable def orcParse : List AV → Option AV
  | [.psl cs len] =>
    match cs.mapM unS with
    | some l => if len = l.length ∧ WOk l then some (parseR (wordA l) l) else none
    | none => none
  | _ => none
theorem orcParse_of (l : List ByteArray) (k : Nat) (hk : k = l.length) (h : WOk l) : orcParse [.psl (strs l) k] = some (parseR (wordA l) l) := by
  simp only [orcParse, unS_strs]
  rw [if_pos ⟨hk, h⟩]
open Classical in
noncomputable def orcL (G : Nat → Option (List AV)) (f : FuncId) : List AV → Option AV := fun args => if h : ∃ r, Pc (Cf G) f args r then some h.choose else none
theorem orcL_of {G : Nat → Option (List AV)} {f : FuncId} {args : List AV} {r : AV} (h : Pc (Cf G) f args r) : orcL G f args = some r := by
  have h' : ∃ r, Pc (Cf G) f args r := ⟨r, h⟩
  unfold orcL
  rw [dif_pos h', Pc_det h'.choose_spec h]
theorem orcL_inv {G : Nat → Option (List AV)} {f : FuncId} {args : List AV} {r : AV} (h : orcL G f args = some r) : Pc (Cf G) f args r := by
  unfold orcL at h
  split at h
  · rename_i h'
    injection h with h
    rw [← h]
    exact h'.choose_spec
  · cases h
def walk6 (f : FuncId) : Bool := f == 3 || f == 4 || f == 5 || f == 6 || f == 13
noncomputable def orc6 (G : Nat → Option (List AV)) (f : FuncId) : Option (List AV → Option AV) := if f = 14 then some orcParse else if walk6 f = true then none else some (orcL G f)
noncomputable def C6 (G : Nat → Option (List AV)) : Cfg := ⟨Tryz.prog, G, fun _ => false, orc6 G, fun _ => false⟩
theorem C6P {G : Nat → Option (List AV)} : (C6 G).P = Tryz.prog := rfl
attribute [go_sem] C6P
theorem nn6 (G : Nat → Option (List AV)) : NoNum (C6 G) := nn G
set_option maxRecDepth 100000 in
theorem orcOk6 : OrcOk (C6 Gu8) := by
  intro f g ars v hf hg Z w us hr hus r o a next Q hn
  have hf' : orc6 Gu8 f = some g := hf
  have conv : ∀ {vv : AV}, (Pf (Cf Gu8) f ars noHeap 0 fun p r h' _ => p = false ∧ (frz h' 64 r).map (·.1) = some vv) → vv = v → o.uponIn (Fw r) 0 (C6 Gu8).P a next Q ((callFunc f us.toArray).run (C6 Gu8).P w) := by
    rintro vv hp rfl
    exact pf_uponC (C := Cf Gu8) sndCf hp (HR_cfg (C := C6 Gu8) (C' := Cf Gu8) rfl hr) hus r o a next Q fun u w1 m1 Z1 h1 n1 st => hn u w1 m1 Z1 h1 n1 (Step_cfg (C := Cf Gu8) (C' := C6 Gu8) rfl st)
  unfold orc6 at hf'
  split at hf'
  · rename_i e
    subst e
    injection hf' with hf'
    subst hf'
    unfold orcParse at hg
    split at hg <;> try (cases hg; done)
    rename_i cs len
    split at hg <;> try (cases hg; done)
    rename_i l hl
    split at hg <;> try (cases hg; done)
    rename_i hc
    obtain ⟨rfl, hok⟩ := hc
    injection hg with hg
    have := strs_of cs l hl
    subst this
    exact conv (pf14A Gu8 l hok.len hok.size hok.run) hg
  · split at hf'
    · cases hf'
    · injection hf' with hf'
      subst hf'
      exact conv (pf_of_Pc (orcL_inv hg)) rfl
set_option maxRecDepth 100000 in
theorem snd6 : Snd (C6 Gu8) := by
  refine ⟨nn6 Gu8, orcOk6, ?_⟩
  rw [C6P]
  exact mix
end Go.Proofs.Bv
namespace Go.Proofs.Bv
open Go
theorem pureRun_bind {P : Program} {α β : Type} (f : α → Sem β) (s : Sem α) : ∀ {a : α}, pureRun P s = some a → pureRun P (s.bind f) = pureRun P (f a) := by
  induction s with
  | pure x =>
    intro a h
    simp only [pureRun, Option.some.injEq] at h
    subst h
    rfl
  | program k ih =>
    intro a h
    have := ih P (a := a) (by simpa only [pureRun] using h)
    simpa only [Sem.bind, pureRun] using this
  | _ => intro a h; simp [pureRun] at h
theorem eq_bool {P : Program} {t : TypeId} (ht : P.underlying t = some .bool) (k : Nat) (a b : Bool) : pureRun P (Op.equalIn (k + 1) t (.bool a) (.bool b)) = some (a == b) := by
  simp only [Op.equalIn, Go.underlying, program, bind, Sem.bind, pureRun, ht, pure]
theorem ev_neqb {P : Program} {t : TypeId} (ht : P.underlying t = some .bool) {xo yo : Operand} {a b : Bool} : vbin P .neq t xo yo (.sc (.bool a)) (.sc (.bool b)) = some (.sc (.bool (!(a == b)))) := by
  have h1 := eq_bool ht 9999 a b
  have h2 : pureRun P (do eqGuard .neq t xo yo (.bool a) (.bool b); binOp .neq t (.bool a) (.bool b)) = some (.bool (!(a == b))) := by
    have e : (do eqGuard .neq t xo yo (.bool a) (.bool b); binOp .neq t (.bool a) (.bool b) : Sem Value) = (Op.equalIn (9999 + 1) t (.bool a) (.bool b)).bind fun c => Sem.pure (.bool !c) := rfl
    rw [e, pureRun_bind _ _ h1]
    rfl
  simp only [vbin, toVal, h2, Option.bind_some, scal, plain, if_true]
theorem ev_eqlb {P : Program} {t : TypeId} (ht : P.underlying t = some .bool) {xo yo : Operand} {a b : Bool} : vbin P .eql t xo yo (.sc (.bool a)) (.sc (.bool b)) = some (.sc (.bool (a == b))) := by
  have h1 := eq_bool ht 9999 a b
  have h2 : pureRun P (do eqGuard .eql t xo yo (.bool a) (.bool b); binOp .eql t (.bool a) (.bool b)) = some (.bool (a == b)) := by
    have e : (do eqGuard .eql t xo yo (.bool a) (.bool b); binOp .eql t (.bool a) (.bool b) : Sem Value) = (Op.equalIn (9999 + 1) t (.bool a) (.bool b)).bind fun c => Sem.pure (.bool c) := rfl
    rw [e, pureRun_bind _ _ h1]
    rfl
  simp only [vbin, toVal, h2, Option.bind_some, scal, plain, if_true]
theorem ev_sadd {P : Program} {t : TypeId} {xo yo : Operand} {a b : ByteArray} (h : a.size + b.size ≤ 1000000000) : vbin P .add t xo yo (.sc (.string a)) (.sc (.string b)) = some (.sc (.string (a ++ b))) := by
  have h' : ¬ ((a.size + b.size : Nat) : Int) > IntKind.i64.max := by
    have : (IntKind.i64.max : Int) = 9223372036854775807 := rfl
    omega
  simp only [vbin, toVal, eqGuard, binOp, Op.stringOp, pureRun, scal, plain, bind, pure, Sem.bind, if_neg h']
  rfl
theorem ok15 : codeOk 91 (Tryz.f15.body.getD .skip) = true := by kernel_rfl
set_option maxRecDepth 100000 in
set_option maxHeartbeats 1000000 in
theorem pc15 (G : Nat → Option (List AV)) (b1 b2 b3 b4 b5 : Bool) (ind : Int) : Pc (Cf G) 15 [.agg [.sc (.bool b1), .sc (.bool b2), .sc (.bool b3), .sc (.bool b4), .sc (.bool b5), .sc (.int .i64 ind), .psl [] 0], .agg [.sc (.bool b1), .sc (.bool b2), .sc (.bool b3), .sc (.bool b4), .sc (.bool b5), .sc (.int .i64 ind), .psl [] 0]] (.sc (.bool true)) := by
  refine Pc_of (Gf_enter (C := Cf G) Tryz.func15 rfl ok15 (Nat.le_of_ble_eq_true rfl) ?_)
  simp only [Tryz.f15, Option.getD_some]
  repeat' first | refine w_op rfl rfl ?_ | refine x_p rfl ?_ | refine w_sr ?_ | refine st_nil ?_ | refine w_seq ?_ | refine st_region ?_ | refine st_block ?_ | refine w_cond ?_ | refine b_t ?_ | refine b_f ?_ | refine st_skip ?_ | refine st_exit ?_ | refine st_ret ?_ | refine st_onNormN ?_ | refine st_onNormE ?_ | refine st_onNormR ?_ | refine st_onExitN ?_ | refine st_onExitR ?_ | refine st_onExitS ?_ | refine st_onExitO (by decide) ?_ | refine g_t ?_ | refine g_f rfl ?_ | refine o_op rfl ?_ | refine w_wr ?_ | refine w_wn ?_ | refine d_c rfl ?_ | refine d_on rfl ?_ | refine d_op rfl ?_ | refine d_y ?_ | refine d_gd rfl ?_ | refine d_t ?_ | refine d_f ?_ | refine d_nil ?_ | refine w_dr rfl ?_ | refine d_q ?_ | refine w_gd rfl ?_ | ((first | refine zE1 ?_); (conv => arg 1; try simp only [go_sem, Nat.reduceEqDiff, reduceIte, Nat.reduceAdd, Nat.reduceLeDiff, Nat.reduceMul, Int.reduceEq, Int.reduceLT, Int.reduceLE, Int.reduceNeg, Int.reduceAdd, Int.reduceSub, Nat.reduceLT, Nat.reduceBEq, Nat.reduceSub, Nat.reducePow, ev_neqb Tryz.underlying4, Option.map_none, Option.isSome_none, Int.natCast_zero]); first | refine zE3 ?_ | refine zE2 ?_ | refine zE4 ?_ | refine zE5 ?_ | refine zE6 ?_ | refine zE7 ?_ | refine zE8 ?_) | (refine w_u false ?_; (conv => arg 1; reduce); refine zR1 ?_) | (refine b_s (fun hb => ?_) (fun hb => ?_) <;> ((try simp only [hn1, hn2, hn3, hn4] at hb); first | (exfalso; omega) | skip)) | (first | refine g_s (fun hb => ?_) (fun hb => ?_) | refine d_s (fun hb => ?_) (fun hb => ?_)) <;> ((try simp only [hn1, hn2] at hb); rw [hb]; try simp only [hn3, hn4] at hb)
  refine Gc_loop_inv (fun _ s => s = _) ?_ 0 _ rfl
  rintro m s rfl
  repeat' first | refine w_op rfl rfl ?_ | refine x_p rfl ?_ | refine w_sr ?_ | refine st_nil ?_ | refine w_seq ?_ | refine st_region ?_ | refine st_block ?_ | refine w_cond ?_ | refine b_t ?_ | refine b_f ?_ | refine st_skip ?_ | refine st_exit ?_ | refine st_ret ?_ | refine st_onNormN ?_ | refine st_onNormE ?_ | refine st_onNormR ?_ | refine st_onExitN ?_ | refine st_onExitR ?_ | refine st_onExitS ?_ | refine st_onExitO (by decide) ?_ | refine g_t ?_ | refine g_f rfl ?_ | refine o_op rfl ?_ | refine w_wr ?_ | refine w_wn ?_ | refine d_c rfl ?_ | refine d_on rfl ?_ | refine d_op rfl ?_ | refine d_y ?_ | refine d_gd rfl ?_ | refine d_t ?_ | refine d_f ?_ | refine d_nil ?_ | refine w_dr rfl ?_ | refine d_q ?_ | refine w_gd rfl ?_ | ((first | refine zE1 ?_); (conv => arg 1; try simp only [go_sem, Nat.reduceEqDiff, reduceIte, Nat.reduceAdd, Nat.reduceLeDiff, Nat.reduceMul, Int.reduceEq, Int.reduceLT, Int.reduceLE, Int.reduceNeg, Int.reduceAdd, Int.reduceSub, Nat.reduceLT, Nat.reduceBEq, Nat.reduceSub, Nat.reducePow, ev_neqb Tryz.underlying4, Option.map_none, Option.isSome_none, Int.natCast_zero]); first | refine zE3 ?_ | refine zE2 ?_ | refine zE4 ?_ | refine zE5 ?_ | refine zE6 ?_ | refine zE7 ?_ | refine zE8 ?_) | (refine w_u false ?_; (conv => arg 1; reduce); refine zR1 ?_) | (refine b_s (fun hb => ?_) (fun hb => ?_) <;> ((try simp only [hn1, hn2, hn3, hn4] at hb); first | (exfalso; omega) | skip)) | (first | refine g_s (fun hb => ?_) (fun hb => ?_) | refine d_s (fun hb => ?_) (fun hb => ?_)) <;> ((try simp only [hn1, hn2] at hb); rw [hb]; try simp only [hn3, hn4] at hb)
  simp only [one1, frz_sc, Option.map_some]
end Go.Proofs.Bv
namespace Go.Proofs.Bv
open Go
theorem tl (l : List UInt8) : (ByteArray.mk l.toArray).toList = l := by rw [ByteArray.toList_eq]
def wDD : ByteArray := ⟨#[45, 45]⟩
def wNR : ByteArray := ⟨#[45, 110, 114]⟩
def wA : ByteArray := ⟨#[46, 97]⟩
def wZ : ByteArray := ⟨#[45, 122]⟩
def wX : ByteArray := ⟨#[120]⟩
def wN : ByteArray := ⟨#[45, 110]⟩
theorem chk_a : chkFrom wA 0 = (2, 0) := by
  rw [chkFrom, dif_pos (by decide), if_neg (by decide)]
  rw [chkFrom, dif_pos (by decide), if_neg (by decide)]
  rw [chkFrom, dif_neg (by decide)]
  rfl
theorem short_of {w : ByteArray} (h : (w.data.toList != [45, 45, 105, 110, 100, 101, 110, 116] && w.data.toList != [45, 45, 97, 114, 103] && w.data.toList != [45, 45, 97, 114, 103, 106, 115, 111, 110]) = true) : shortB w = true := by
  unfold shortB
  rw [ByteArray.toList_eq, ByteArray.toList_eq, ByteArray.toList_eq, ByteArray.toList_eq]
  exact h
theorem word_letters {w : ByteArray} {s s' : PS} (l : List ByteArray) (hpl : s.pl = false) (h : (w.data.toList != [45, 45, 97, 114, 103] && w.data.toList != [45] && w.data.toList != [45, 45]) = true) (hp : preB w = true) {b : Bool} (hl : lettersF (w.extract 1 w.size).data.toList s = (b, s')) :
    wordA l w s = (if b then none else some (s.pos, 271), s') := by
  simp only [Bool.and_eq_true, bne_iff_ne, ne_eq] at h
  have e1 : (w.toList == argW.toList) = false := by rw [ByteArray.toList_eq, ByteArray.toList_eq]; exact beq_eq_false_iff_ne.2 h.1.1
  have e2 : (w.toList == (⟨#[45]⟩ : ByteArray).toList) = false := by rw [ByteArray.toList_eq, ByteArray.toList_eq]; exact beq_eq_false_iff_ne.2 h.1.2
  have e3 : (w.toList == (⟨#[45, 45]⟩ : ByteArray).toList) = false := by rw [ByteArray.toList_eq, ByteArray.toList_eq]; exact beq_eq_false_iff_ne.2 h.2
  simp only [wordA, wordF, e1, e2, e3, hpl, hp, hl, Bool.and_false, Bool.not_true, Bool.or_false, Bool.false_eq_true, if_false]
theorem word_filter {w : ByteArray} {s : PS} (l : List ByteArray) (h : (s.pl || (!preB w && (w.data.toList != [45, 45, 97, 114, 103]))) = true) :
    wordA l w s = if s.fd then (some (s.pos, 271), s) else if (chkFrom w 0).2 = 0 then (none, { s with fl := w, fd := true }) else (some (s.pos, (chkFrom w 0).2), s) := by
  have e1 : (!s.pl && (w.toList == argW.toList)) = false := by
    cases hpl : s.pl with
    | true => rfl
    | false =>
      rw [hpl] at h
      simp only [Bool.false_or, Bool.and_eq_true, bne_iff_ne, ne_eq] at h
      simp only [Bool.not_false, Bool.true_and]
      rw [ByteArray.toList_eq, ByteArray.toList_eq]
      exact beq_eq_false_iff_ne.2 h.2
  have e2 : (s.pl || (w.toList == (⟨#[45]⟩ : ByteArray).toList) || !preB w) = true := by
    simp only [Bool.or_eq_true, Bool.and_eq_true] at h ⊢
    rcases h with h | h
    · exact .inl (.inl h)
    · exact .inr h.1
  unfold wordA
  rw [e1, if_neg (by simp)]
  unfold wordF
  rw [if_pos e2]
theorem word_dd {s : PS} (l : List ByteArray) (hpl : s.pl = false) : wordA l wDD s = (none, { s with pl := true }) := by
  have hp : preB wDD = true := by
    unfold preB
    rw [if_pos (by decide), ByteArray.toList_eq, ByteArray.toList_eq]
    rfl
  have e1 : (wDD.toList == argW.toList) = false := by rw [ByteArray.toList_eq, ByteArray.toList_eq]; rfl
  have e2 : (wDD.toList == (⟨#[45]⟩ : ByteArray).toList) = false := by rw [ByteArray.toList_eq, ByteArray.toList_eq]; rfl
  have e3 : (wDD.toList == (⟨#[45, 45]⟩ : ByteArray).toList) = true := by rw [ByteArray.toList_eq, ByteArray.toList_eq]; rfl
  simp only [wordA, wordF, e1, e2, e3, hpl, hp, Bool.and_false, Bool.not_true, Bool.or_false, Bool.false_eq_true, if_false, if_true]
theorem word_arg {s : PS} (l : List ByteArray) (hpl : s.pl = false) : wordA l argW s = (some (l.length, 8), { s with pos := l.length }) := by
  unfold wordA
  rw [hpl, if_pos (by simp)]
theorem pre_of {w : ByteArray} (h : 1 ≤ w.size) (h2 : (w.extract 0 1).data.toList = [45]) : preB w = true := by
  unfold preB
  rw [if_pos (by omega), ByteArray.toList_eq, ByteArray.toList_eq, h2]
  rfl
theorem pre_no {w : ByteArray} (h : 1 ≤ w.size) (h2 : ((w.extract 0 1).data.toList == [45]) = false) : preB w = false := by
  unfold preB
  rw [if_pos (by omega), ByteArray.toList_eq, ByteArray.toList_eq]
  exact h2
theorem w_nr (l : List ByteArray) : wordA l wNR ps0 = (none, { ps0 with nl := true, rw := true }) := word_letters (b := true) l rfl (by decide) (pre_of (by decide) (by decide)) (by rfl)
theorem w_a (l : List ByteArray) (s : PS) (h : s.fd = false) : wordA l wA s = (none, { s with fl := wA, fd := true }) := by
  rw [word_filter l (by rw [pre_no (by decide) (by decide)]; cases s.pl <;> decide), h, chk_a]
  rfl
theorem w_z (l : List ByteArray) : wordA l wZ ps0 = (some (0, 271), ps0) := word_letters (b := false) l rfl (by decide) (pre_of (by decide) (by decide)) (by rfl)
theorem w_n (l : List ByteArray) : wordA l wN ps0 = (none, { ps0 with nl := true }) := word_letters (b := true) l rfl (by decide) (pre_of (by decide) (by decide)) (by rfl)
theorem sizes2 {a b : ByteArray} (ha : a.size ≤ 140737488355328) (hb : b.size ≤ 140737488355328) : ∀ w ∈ [a, b], w.size ≤ 140737488355328 := by
  intro w hw
  simp only [List.mem_cons, List.not_mem_nil, or_false] at hw
  rcases hw with rfl | rfl
  · exact ha
  · exact hb
theorem ok_nr : WOk [wNR, wA] := by
  refine ⟨by decide, sizes2 (Nat.le_of_ble_eq_true rfl) (Nat.le_of_ble_eq_true rfl), ?_⟩
  have h1 : shortB wNR = true := short_of (by decide)
  have h2 : shortB wA = true := short_of (by decide)
  simp only [List.length_cons, List.length_nil, Nat.zero_add, Nat.reduceAdd, runV, ps0, List.getElem?_cons_zero, okNow, h1, h2, Bool.or_true, Bool.true_or, Bool.true_and]
  rw [show (⟨false, false, false, false, false, 2, .nilS, 0, ⟨#[]⟩, false, false⟩ : PS) = ps0 from rfl, w_nr]
  simp only [ps0, Nat.zero_add, List.getElem?_cons_succ, List.getElem?_cons_zero, Bool.or_true, Bool.true_or, Bool.true_and, h2]
  rw [w_a _ _ rfl]
  rfl
theorem r_nr : parseR (wordA [wNR, wA]) [wNR, wA] = .tup [.agg [.sc (.bool true), .sc (.bool false), .sc (.bool true), .sc (.bool false), .sc (.bool false), .sc (.int .i64 2), .psl [] 0], .sc (.string wA), .sc (.int .i64 2), .sc (.int .i64 0)] := by
  have h : runF (wordA [wNR, wA]) [wNR, wA] 2 ps0 = (none, { ps0 with nl := true, rw := true, fl := wA, fd := true, pos := 2 }) := by
    rw [runF]
    simp only [ps0, List.getElem?_cons_zero]
    rw [show (⟨false, false, false, false, false, 2, .nilS, 0, ⟨#[]⟩, false, false⟩ : PS) = ps0 from rfl, w_nr]
    simp only
    rw [runF]
    simp only [ps0, Nat.zero_add, List.getElem?_cons_succ, List.getElem?_cons_zero]
    rw [w_a _ _ rfl]
    rfl
  simp only [parseR, allF, List.length_cons, List.length_nil, Nat.zero_add, Nat.reduceAdd, h]
  rfl
theorem ok_dd (a b : ByteArray) (ha : a.size ≤ 140737488355328) (hb : b.size ≤ 140737488355328) : WOk [wDD, a, b] := by
  refine ⟨by simp, fun w hw => ?_, ?_⟩
  · simp only [List.mem_cons, List.not_mem_nil, or_false] at hw
    rcases hw with rfl | rfl | rfl
    · exact Nat.le_of_ble_eq_true rfl
    · exact ha
    · exact hb
  · have h1 : shortB wDD = true := short_of (by decide)
    show runV [wDD, a, b] 3 ps0 = true
    rw [runV]
    simp only [ps0, List.getElem?_cons_zero, okNow, h1, Bool.or_true, Bool.true_or, Bool.true_and]
    rw [word_dd _ rfl]
    simp only [runV, Nat.zero_add, List.getElem?_cons_succ, List.getElem?_cons_zero, okNow, Bool.true_or, Bool.true_and]
    rw [word_filter _ (by rfl)]
    simp only [Bool.false_eq_true, if_false]
    by_cases hc : (chkFrom a 0).2 = 0
    · rw [if_pos hc]
      simp only [Nat.reduceAdd, List.getElem?_cons_succ, List.getElem?_cons_zero]
      rw [word_filter _ (by rfl)]
      rfl
    · rw [if_neg hc]
theorem r_dd (a b : ByteArray) : parseR (wordA [wDD, a, b]) [wDD, a, b] = if (chkFrom a 0).2 = 0 then .tup [opts0, .sc (.string ⟨#[]⟩), .sc (.int .i64 2), .sc (.int .i64 271)] else .tup [opts0, .sc (.string ⟨#[]⟩), .sc (.int .i64 1), .sc (.int .i64 (chkFrom a 0).2)] := by
  have h : (runF (wordA [wDD, a, b]) [wDD, a, b] 3 ps0).1 = if (chkFrom a 0).2 = 0 then some (2, 271) else some (1, (chkFrom a 0).2) := by
    rw [runF]
    simp only [ps0, List.getElem?_cons_zero]
    rw [word_dd _ rfl]
    simp only [runF, Nat.zero_add, List.getElem?_cons_succ, List.getElem?_cons_zero]
    rw [word_filter _ (by rfl)]
    simp only [Bool.false_eq_true, if_false]
    by_cases hc : (chkFrom a 0).2 = 0
    · rw [if_pos hc, if_pos hc]
      simp only [Nat.reduceAdd, List.getElem?_cons_succ, List.getElem?_cons_zero]
      rw [word_filter _ (by rfl)]
      rfl
    · rw [if_neg hc, if_neg hc]
  simp only [parseR, allF, List.length_cons, List.length_nil, Nat.zero_add, Nat.reduceAdd]
  generalize runF (wordA [wDD, a, b]) [wDD, a, b] 3 ps0 = r at h
  obtain ⟨er, s⟩ := r
  simp only at h
  subst h
  by_cases hc : (chkFrom a 0).2 = 0
  · rw [if_pos hc, if_pos hc]; rfl
  · rw [if_neg hc, if_neg hc]; rfl
theorem ok_z (a : ByteArray) (ha : a.size ≤ 140737488355328) : WOk [wZ, a] := by
  refine ⟨by simp, sizes2 (Nat.le_of_ble_eq_true rfl) ha, ?_⟩
  have h1 : shortB wZ = true := short_of (by decide)
  show runV [wZ, a] 2 ps0 = true
  rw [runV]
  simp only [ps0, List.getElem?_cons_zero, okNow, h1, Bool.or_true, Bool.true_or, Bool.true_and]
  rw [show (⟨false, false, false, false, false, 2, .nilS, 0, ⟨#[]⟩, false, false⟩ : PS) = ps0 from rfl, w_z]
theorem r_z (a : ByteArray) : parseR (wordA [wZ, a]) [wZ, a] = .tup [opts0, .sc (.string ⟨#[]⟩), .sc (.int .i64 0), .sc (.int .i64 271)] := by
  have h : runF (wordA [wZ, a]) [wZ, a] 2 ps0 = (some (0, 271), ps0) := by
    rw [runF]
    simp only [ps0, List.getElem?_cons_zero]
    rw [show (⟨false, false, false, false, false, 2, .nilS, 0, ⟨#[]⟩, false, false⟩ : PS) = ps0 from rfl, w_z]
  simp only [parseR, allF, List.length_cons, List.length_nil, Nat.zero_add, Nat.reduceAdd, h]
  rfl
theorem ok_x : WOk [argW, wX] := by
  refine ⟨by decide, sizes2 (Nat.le_of_ble_eq_true rfl) (Nat.le_of_ble_eq_true rfl), ?_⟩
  show runV [argW, wX] 2 ps0 = true
  rw [runV]
  simp only [ps0, List.getElem?_cons_zero, okNow, List.length_cons, List.length_nil]
  rw [word_arg _ rfl]
  simp
theorem r_x : parseR (wordA [argW, wX]) [argW, wX] = .tup [opts0, .sc (.string ⟨#[]⟩), .sc (.int .i64 2), .sc (.int .i64 8)] := by
  have h : (runF (wordA [argW, wX]) [argW, wX] 2 ps0).1 = some (2, 8) := by
    rw [runF]
    simp only [ps0, List.getElem?_cons_zero]
    rw [word_arg _ rfl]
    rfl
  simp only [parseR, allF, List.length_cons, List.length_nil, Nat.zero_add, Nat.reduceAdd]
  generalize runF (wordA [argW, wX]) [argW, wX] 2 ps0 = r at h
  obtain ⟨er, s⟩ := r
  simp only at h
  subst h
  rfl
theorem ok_n : WOk [wN] := by
  refine ⟨by decide, fun w hw => by rw [List.mem_singleton.1 hw]; exact Nat.le_of_ble_eq_true rfl, ?_⟩
  have h1 : shortB wN = true := short_of (by decide)
  show runV [wN] 1 ps0 = true
  rw [runV]
  simp only [ps0, List.getElem?_cons_zero, okNow, h1, Bool.or_true, Bool.true_or, Bool.true_and]
  rw [show (⟨false, false, false, false, false, 2, .nilS, 0, ⟨#[]⟩, false, false⟩ : PS) = ps0 from rfl, w_n]
  rfl
theorem r_n : parseR (wordA [wN]) [wN] = .tup [opts0, .sc (.string ⟨#[]⟩), .sc (.int .i64 1), .sc (.int .i64 8)] := by
  have h : runF (wordA [wN]) [wN] 1 ps0 = (none, { ps0 with nl := true, pos := 1 }) := by
    rw [runF]
    simp only [ps0, List.getElem?_cons_zero]
    rw [show (⟨false, false, false, false, false, 2, .nilS, 0, ⟨#[]⟩, false, false⟩ : PS) = ps0 from rfl, w_n]
    rfl
  simp only [parseR, allF, List.length_cons, List.length_nil, Nat.zero_add, h]
  rfl
end Go.Proofs.Bv
namespace Go.Proofs.Bv
open Go
theorem ok13 : codeOk 40 (Tryz.f13.body.getD .skip) = true := by kernel_rfl
theorem ok5 : codeOk 105 (Tryz.f5.body.getD .skip) = true := by kernel_rfl
set_option maxRecDepth 100000 in
set_option maxHeartbeats 1000000 in
theorem pc13 (G : Nat → Option (List AV)) : Pc (C6 G) 13 [] (.sc (.bool true)) := by
  have hp := orcParse_of [wNR, wA] 2 rfl ok_nr
  rw [r_nr] at hp
  have es : (wA.toList == (⟨#[46, 97]⟩ : ByteArray).toList) = true := by rw [ByteArray.toList_eq, ByteArray.toList_eq]; rfl
  refine Pc_of (Gf_enter (C := C6 G) Tryz.func13 rfl ok13 (Nat.le_of_ble_eq_true rfl) ?_)
  simp only [Tryz.f13, Option.getD_some]
  repeat' first | refine w_op rfl rfl ?_ | refine x_p rfl ?_ | refine w_sr ?_ | refine st_nil ?_ | refine w_seq ?_ | refine st_region ?_ | refine st_block ?_ | refine w_cond ?_ | refine b_t ?_ | refine b_f ?_ | refine st_skip ?_ | refine st_exit ?_ | refine st_ret ?_ | refine st_onNormN ?_ | refine st_onNormE ?_ | refine st_onNormR ?_ | refine st_onExitN ?_ | refine st_onExitR ?_ | refine st_onExitS ?_ | refine st_onExitO (by decide) ?_ | refine g_t ?_ | refine g_f rfl ?_ | refine o_op rfl ?_ | refine w_wr ?_ | refine w_wn ?_ | refine d_c rfl ?_ | refine d_on rfl ?_ | refine d_op rfl ?_ | refine d_y ?_ | refine d_gd rfl ?_ | refine d_t ?_ | refine d_f ?_ | refine d_nil ?_ | refine w_dr rfl ?_ | refine d_q ?_ | refine n_0 rfl ?_ | refine d_n ?_ | refine k_o rfl rfl rfl ?_ | refine k_z rfl ?_ | refine z_f rfl rfl (hp) rfl ?_ | refine z_g rfl rfl (hp) rfl ?_ | refine z_of rfl rfl (hp) rfl ?_ | refine z_og rfl rfl (hp) rfl ?_ | refine d_m (Nat.le_refl _) ?_ | refine w_gd rfl ?_ | ((first | refine zE1 ?_ | refine w_cl rfl rfl ?_ | refine o_cl rfl ?_ | refine d_cl rfl ?_); (conv => arg 1; try simp only [go_sem, Nat.reduceEqDiff, reduceIte, Nat.reduceAdd, Nat.reduceLeDiff, Nat.reduceMul, Int.reduceEq, Int.reduceLT, Int.reduceLE, Int.reduceNeg, Int.reduceAdd, Int.reduceSub, Nat.reduceLT, Nat.reduceBEq, Nat.reduceSub, Nat.reducePow, es, Nat.reducePow, Option.map_none, Option.isSome_none]); first | refine zE3 ?_ | refine zE2 ?_ | refine zE4 ?_ | refine zE5 ?_ | refine zE6 ?_ | refine zE7 ?_ | refine zE8 ?_) | (refine w_u false ?_; (conv => arg 1; reduce); refine zR1 ?_) | (refine b_s (fun hb => ?_) (fun hb => ?_) <;> ((try simp only [hn1, hn2, hn3, hn4] at hb); first | (exfalso; omega) | skip)) | (first | refine g_s (fun hb => ?_) (fun hb => ?_) | refine d_s (fun hb => ?_) (fun hb => ?_)) <;> ((try simp only [hn1, hn2] at hb); rw [hb]; try simp only [hn3, hn4] at hb)
  simp only [one1, frz_sc, Option.map_some]
set_option maxRecDepth 100000 in
set_option maxHeartbeats 4000000 in
theorem pc5 (G : Nat → Option (List AV)) (s t : ByteArray) (hs : s.size ≤ 140737488355328) (ht : t.size ≤ 140737488355328) : Pc (C6 G) 5 [.sc (.string s), .sc (.string t)] (.sc (.bool true)) := by
  have hal := pc13 G
  have hk := orcL_of (pc16 G s hs)
  have p1 := orcParse_of [wDD, s, t] 3 rfl (ok_dd s t hs ht)
  have p2 := orcParse_of [wZ, s] 2 rfl (ok_z s hs)
  have p3 := orcParse_of [argW, wX] 2 rfl ok_x
  have p4 := orcParse_of [wN] 1 rfl ok_n
  rw [r_dd] at p1
  rw [r_z] at p2
  rw [r_x] at p3
  rw [r_n] at p4
  simp only [opts0] at p1 p2 p3 p4
  have hcc := chk_codes s 0
  by_cases hc : (chkFrom s 0).2 = 0
  · rw [if_pos hc] at p1
    rw [hc] at hk
    refine Pc_of (Gf_enter (C := C6 G) Tryz.func5 rfl ok5 (Nat.le_of_ble_eq_true rfl) ?_)
    simp only [Tryz.f5, Option.getD_some]
    repeat' first | refine w_op rfl rfl ?_ | refine x_p rfl ?_ | refine w_sr ?_ | refine st_nil ?_ | refine w_seq ?_ | refine st_region ?_ | refine st_block ?_ | refine w_cond ?_ | refine b_t ?_ | refine b_f ?_ | refine st_skip ?_ | refine st_exit ?_ | refine st_ret ?_ | refine st_onNormN ?_ | refine st_onNormE ?_ | refine st_onNormR ?_ | refine st_onExitN ?_ | refine st_onExitR ?_ | refine st_onExitS ?_ | refine st_onExitO (by decide) ?_ | refine g_t ?_ | refine g_f rfl ?_ | refine o_op rfl ?_ | refine w_wr ?_ | refine w_wn ?_ | refine d_c rfl ?_ | refine d_on rfl ?_ | refine d_op rfl ?_ | refine d_y ?_ | refine d_gd rfl ?_ | refine d_t ?_ | refine d_f ?_ | refine d_nil ?_ | refine w_dr rfl ?_ | refine d_q ?_ | refine n_0 rfl ?_ | refine d_n ?_ | refine k_p rfl rfl rfl rfl (hal) ?_ | refine k_o rfl rfl rfl ?_ | refine k_z rfl ?_ | refine z_f rfl rfl (p1) rfl ?_ | refine z_g rfl rfl (p1) rfl ?_ | refine z_of rfl rfl (p1) rfl ?_ | refine z_og rfl rfl (p1) rfl ?_ | refine d_m (Nat.le_refl _) ?_ | refine z_f rfl rfl (p2) rfl ?_ | refine z_g rfl rfl (p2) rfl ?_ | refine z_of rfl rfl (p2) rfl ?_ | refine z_og rfl rfl (p2) rfl ?_ | refine z_f rfl rfl (p3) rfl ?_ | refine z_g rfl rfl (p3) rfl ?_ | refine z_of rfl rfl (p3) rfl ?_ | refine z_og rfl rfl (p3) rfl ?_ | refine z_f rfl rfl (p4) rfl ?_ | refine z_g rfl rfl (p4) rfl ?_ | refine z_of rfl rfl (p4) rfl ?_ | refine z_og rfl rfl (p4) rfl ?_ | refine w_gd rfl ?_ | ((first | refine zE1 ?_ | refine w_cl rfl rfl ?_ | refine o_cl rfl ?_ | refine d_cl rfl ?_); (conv => arg 1; try simp only [go_sem, Nat.reduceEqDiff, reduceIte, Nat.reduceAdd, Nat.reduceLeDiff, Nat.reduceMul, Int.reduceEq, Int.reduceLT, Int.reduceLE, Int.reduceNeg, Int.reduceAdd, Int.reduceSub, Nat.reduceLT, Nat.reduceBEq, Nat.reduceSub, Nat.reducePow, hk, Nat.reducePow, Option.map_none, Option.isSome_none]); first | refine zE3 ?_ | refine zE2 ?_ | refine zE4 ?_ | refine zE5 ?_ | refine zE6 ?_ | refine zE7 ?_ | refine zE8 ?_) | (refine w_u false ?_; (conv => arg 1; reduce); refine zR1 ?_) | (refine b_s (fun hb => ?_) (fun hb => ?_) <;> ((try simp only [hn1, hn2, hn3, hn4] at hb); first | (exfalso; omega) | skip)) | (first | refine g_s (fun hb => ?_) (fun hb => ?_) | refine d_s (fun hb => ?_) (fun hb => ?_)) <;> ((try simp only [hn1, hn2] at hb); rw [hb]; try simp only [hn3, hn4] at hb)
    simp only [one1, frz_sc, Option.map_some]
  · rw [if_neg hc] at p1
    have h61 : (chkFrom s 0).2 = 61 := by omega
    rw [h61] at hk p1
    refine Pc_of (Gf_enter (C := C6 G) Tryz.func5 rfl ok5 (Nat.le_of_ble_eq_true rfl) ?_)
    simp only [Tryz.f5, Option.getD_some]
    repeat' first | refine w_op rfl rfl ?_ | refine x_p rfl ?_ | refine w_sr ?_ | refine st_nil ?_ | refine w_seq ?_ | refine st_region ?_ | refine st_block ?_ | refine w_cond ?_ | refine b_t ?_ | refine b_f ?_ | refine st_skip ?_ | refine st_exit ?_ | refine st_ret ?_ | refine st_onNormN ?_ | refine st_onNormE ?_ | refine st_onNormR ?_ | refine st_onExitN ?_ | refine st_onExitR ?_ | refine st_onExitS ?_ | refine st_onExitO (by decide) ?_ | refine g_t ?_ | refine g_f rfl ?_ | refine o_op rfl ?_ | refine w_wr ?_ | refine w_wn ?_ | refine d_c rfl ?_ | refine d_on rfl ?_ | refine d_op rfl ?_ | refine d_y ?_ | refine d_gd rfl ?_ | refine d_t ?_ | refine d_f ?_ | refine d_nil ?_ | refine w_dr rfl ?_ | refine d_q ?_ | refine n_0 rfl ?_ | refine d_n ?_ | refine k_p rfl rfl rfl rfl (hal) ?_ | refine k_o rfl rfl rfl ?_ | refine k_z rfl ?_ | refine z_f rfl rfl (p1) rfl ?_ | refine z_g rfl rfl (p1) rfl ?_ | refine z_of rfl rfl (p1) rfl ?_ | refine z_og rfl rfl (p1) rfl ?_ | refine d_m (Nat.le_refl _) ?_ | refine z_f rfl rfl (p2) rfl ?_ | refine z_g rfl rfl (p2) rfl ?_ | refine z_of rfl rfl (p2) rfl ?_ | refine z_og rfl rfl (p2) rfl ?_ | refine z_f rfl rfl (p3) rfl ?_ | refine z_g rfl rfl (p3) rfl ?_ | refine z_of rfl rfl (p3) rfl ?_ | refine z_og rfl rfl (p3) rfl ?_ | refine z_f rfl rfl (p4) rfl ?_ | refine z_g rfl rfl (p4) rfl ?_ | refine z_of rfl rfl (p4) rfl ?_ | refine z_og rfl rfl (p4) rfl ?_ | refine w_gd rfl ?_ | ((first | refine zE1 ?_ | refine w_cl rfl rfl ?_ | refine o_cl rfl ?_ | refine d_cl rfl ?_); (conv => arg 1; try simp only [go_sem, Nat.reduceEqDiff, reduceIte, Nat.reduceAdd, Nat.reduceLeDiff, Nat.reduceMul, Int.reduceEq, Int.reduceLT, Int.reduceLE, Int.reduceNeg, Int.reduceAdd, Int.reduceSub, Nat.reduceLT, Nat.reduceBEq, Nat.reduceSub, Nat.reducePow, hk, Nat.reducePow, Option.map_none, Option.isSome_none]); first | refine zE3 ?_ | refine zE2 ?_ | refine zE4 ?_ | refine zE5 ?_ | refine zE6 ?_ | refine zE7 ?_ | refine zE8 ?_) | (refine w_u false ?_; (conv => arg 1; reduce); refine zR1 ?_) | (refine b_s (fun hb => ?_) (fun hb => ?_) <;> ((try simp only [hn1, hn2, hn3, hn4] at hb); first | (exfalso; omega) | skip)) | (first | refine g_s (fun hb => ?_) (fun hb => ?_) | refine d_s (fun hb => ?_) (fun hb => ?_)) <;> ((try simp only [hn1, hn2] at hb); rw [hb]; try simp only [hn3, hn4] at hb)
    simp only [one1, frz_sc, Option.map_some]
end Go.Proofs.Bv
namespace Go.Proofs.Bv
open Go
def isL (c : UInt8) : Bool := c == 110 || c == 115 || c == 114 || c == 106 || c == 97 || c == 99
def oneW (ks : List UInt8) : ByteArray := ⟨(45 :: ks).toArray⟩
def cW (c : UInt8) : ByteArray := ⟨[45, c].toArray⟩
def stF (ks : List UInt8) (s : PS) : PS := (lettersF ks s).2
theorem isL_cases {c : UInt8} (h : isL c = true) : c = 110 ∨ c = 115 ∨ c = 114 ∨ c = 106 ∨ c = 97 ∨ c = 99 := by
  simp only [isL, Bool.or_eq_true, beq_iff_eq] at h
  rcases h with ((((h | h) | h) | h) | h) | h
  · exact .inl h
  · exact .inr (.inl h)
  · exact .inr (.inr (.inl h))
  · exact .inr (.inr (.inr (.inl h)))
  · exact .inr (.inr (.inr (.inr (.inl h))))
  · exact .inr (.inr (.inr (.inr (.inr h))))
structure Kept (s s' : PS) : Prop where
  pl : s'.pl = s.pl
  fd : s'.fd = s.fd
  fl : s'.fl = s.fl
  pos : s'.pos = s.pos
  nm : s'.nm = s.nm
def Fine (s : PS) : Prop := (s.ind = 0 ∨ s.ind = 2) ∧ (s.asc = true → s.ind = 0)
theorem letter_ok {c : UInt8} (h : isL c = true) (s : PS) : ∃ s', letterF c.toNat s = some s' ∧ Kept s s' ∧ (Fine s → Fine s') ∧ ∀ p, letterF c.toNat { s with pos := p } = some { s' with pos := p } := by
  rcases isL_cases h with rfl | rfl | rfl | rfl | rfl | rfl
  all_goals exact ⟨_, rfl, ⟨rfl, rfl, rfl, rfl, rfl⟩, fun hf => by first | exact hf | exact ⟨.inl rfl, fun _ => rfl⟩, fun _ => rfl⟩
theorem letters_ok : (ks : List UInt8) → (∀ c ∈ ks, isL c = true) → (s : PS) → lettersF ks s = (true, stF ks s) ∧ Kept s (stF ks s) ∧ (Fine s → Fine (stF ks s)) ∧ ∀ p, stF ks { s with pos := p } = { stF ks s with pos := p }
  | [], _, s => ⟨rfl, ⟨rfl, rfl, rfl, rfl, rfl⟩, id, fun _ => rfl⟩
  | c :: ks, h, s => by
    obtain ⟨s', h1, h2, h3, h4⟩ := letter_ok (h c (by simp)) s
    obtain ⟨g1, g2, g3, g4⟩ := letters_ok ks (fun c hc => h c (by simp [hc])) s'
    have e : stF (c :: ks) s = stF ks s' := by simp only [stF, lettersF, h1]
    refine ⟨?_, ?_, ?_, ?_⟩
    · rw [e]; simp only [lettersF, h1]; exact g1
    · rw [e]; exact ⟨g2.pl.trans h2.pl, g2.fd.trans h2.fd, g2.fl.trans h2.fl, g2.pos.trans h2.pos, g2.nm.trans h2.nm⟩
    · rw [e]; exact fun hf => g3 (h3 hf)
    · intro p
      rw [e, ← g4 p]
      simp only [stF, lettersF, h4 p]
theorem one_ext (ks : List UInt8) : ((oneW ks).extract 1 (oneW ks).size).data.toList = ks := by
  simp [oneW, ByteArray.data_extract, ByteArray.size]
theorem one_pre (ks : List UInt8) : preB (oneW ks) = true := pre_of (by simp [oneW, ByteArray.size]) (by simp [oneW, ByteArray.data_extract])
theorem head_ne {c : UInt8} (h : isL c = true) : c ≠ 45 := by
  rintro rfl
  exact absurd h (by decide)
theorem w_one (l : List ByteArray) {ks : List UInt8} (hk : ks ≠ []) (h : ∀ c ∈ ks, isL c = true) (s : PS) (hpl : s.pl = false) : wordA l (oneW ks) s = (none, stF ks s) ∧ shortB (oneW ks) = true := by
  cases ks with
  | nil => exact absurd rfl hk
  | cons c ks =>
    have hc := head_ne (h c (by simp))
    have e : (oneW (c :: ks)).data.toList = 45 :: c :: ks := rfl
    refine ⟨word_letters (b := true) l hpl ?_ (one_pre _) ?_, short_of ?_⟩
    · rw [e]; simp [hc]
    · rw [one_ext]; exact (letters_ok _ h s).1
    · rw [e]; simp [hc]
theorem w_c (l : List ByteArray) {c : UInt8} (h : isL c = true) (s : PS) (hpl : s.pl = false) : wordA l (cW c) s = (none, stF [c] s) ∧ shortB (cW c) = true :=
  w_one l (ks := [c]) (by simp) (by simpa using h) s hpl
theorem runF_step {W : ByteArray → PS → Option (Nat × Int) × PS} {l : List ByteArray} {k : Nat} {s s' : PS} {w : ByteArray} (hw : l[s.pos]? = some w) (h : W w s = (none, s')) : runF W l (k + 1) s = runF W l k { s' with pos := s'.pos + 1 } := by
  rw [runF, hw]
  simp only [h]
theorem runF_stop {W : ByteArray → PS → Option (Nat × Int) × PS} {l : List ByteArray} {k : Nat} {s s' : PS} {w : ByteArray} {e : Nat × Int} (hw : l[s.pos]? = some w) (h : W w s = (some e, s')) : runF W l (k + 1) s = (some e, s') := by
  rw [runF, hw]
  simp only [h]
theorem runV_step {l : List ByteArray} {k : Nat} {s s' : PS} {w : ByteArray} (hw : l[s.pos]? = some w) (h : wordA l w s = (none, s')) (ho : okNow l w s = true) : runV l (k + 1) s = runV l k { s' with pos := s'.pos + 1 } := by
  rw [runV, hw]
  simp only [h, ho, Bool.true_and]
theorem runV_stop {l : List ByteArray} {k : Nat} {s s' : PS} {w : ByteArray} {e : Nat × Int} (hw : l[s.pos]? = some w) (h : wordA l w s = (some e, s')) (ho : okNow l w s = true) : runV l (k + 1) s = true := by
  rw [runV, hw]
  simp only [h, ho, Bool.true_and]
theorem ok_short {l : List ByteArray} {w : ByteArray} {s : PS} (h : shortB w = true) : okNow l w s = true := by simp [okNow, h]
theorem run_many (l : List ByteArray) : (ks : List UInt8) → (∀ c ∈ ks, isL c = true) → (pre tail : List ByteArray) → l = pre ++ (ks.map cW ++ tail) → (s : PS) → s.pl = false → s.pos = pre.length → (k : Nat) →
    runF (wordA l) l (ks.length + k) s = runF (wordA l) l k { stF ks s with pos := pre.length + ks.length } ∧ runV l (ks.length + k) s = runV l k { stF ks s with pos := pre.length + ks.length }
  | [], _, pre, tail, hl, s, hpl, hp, k => by
    have e : ({ stF [] s with pos := pre.length + ([] : List UInt8).length } : PS) = s := by
      obtain ⟨a, b, c, d, e, f, g, p, i, j, m⟩ := s
      simp only at hp
      subst hp
      rfl
    rw [e]
    simp
  | c :: ks, h, pre, tail, hl, s, hpl, hp, k => by
    have hc := h c (by simp)
    obtain ⟨hw1, hw2⟩ := w_c l hc s hpl
    have hget : l[s.pos]? = some (cW c) := by
      rw [hl, hp]
      simp
    obtain ⟨g1, g2, g3, g4⟩ := letters_ok [c] (by simpa using hc) s
    have e1 : (c :: ks).length + k = (ks.length + k) + 1 := by simp; omega
    have ih := run_many l ks (fun c hc => h c (by simp [hc])) (pre ++ [cW c]) tail (by rw [hl]; simp) { stF [c] s with pos := (stF [c] s).pos + 1 } (by show (stF [c] s).pl = false; rw [g2.pl]; exact hpl) (by show (stF [c] s).pos + 1 = _; rw [g2.pos, hp]; simp) k
    have e2 : ({ stF ks { stF [c] s with pos := (stF [c] s).pos + 1 } with pos := (pre ++ [cW c]).length + ks.length } : PS) = { stF (c :: ks) s with pos := pre.length + (c :: ks).length } := by
      obtain ⟨s', h1, h2, h3, h4⟩ := letter_ok hc s
      have e3 : stF [c] s = s' := by simp only [stF, lettersF, h1]
      have e4 : stF (c :: ks) s = stF ks s' := by simp only [stF, lettersF, h1]
      rw [e3, e4, (letters_ok ks (fun c hc => h c (by simp [hc])) s').2.2.2]
      simp
      omega
    rw [e2] at ih
    rw [e1, runF_step hget hw1, runV_step hget hw1 (ok_short hw2)]
    exact ih
theorem run_tail (l : List ByteArray) (pre : List ByteArray) (a : ByteArray) (hl : l = pre ++ [wDD, a]) (s : PS) (hpl : s.pl = false) (hfd : s.fd = false) (hp : s.pos = pre.length) :
    (runF (wordA l) l 2 s = if (chkFrom a 0).2 = 0 then (none, { s with pl := true, fl := a, fd := true, pos := pre.length + 2 }) else (some (pre.length + 1, (chkFrom a 0).2), { s with pl := true, pos := pre.length + 1 })) ∧ runV l 2 s = true := by
  obtain ⟨nl, sl, rw', jn, asc, ind, nm, pos, fl, fd, pl⟩ := s
  simp only at hpl hfd hp
  subst hpl; subst hfd; subst hp
  have h1 : l[(⟨nl, sl, rw', jn, asc, ind, nm, pre.length, fl, false, false⟩ : PS).pos]? = some wDD := by rw [hl]; simp
  have h2 : l[(⟨nl, sl, rw', jn, asc, ind, nm, pre.length + 1, fl, false, true⟩ : PS).pos]? = some a := by
    rw [hl]
    simp
  have hw := word_dd (s := ⟨nl, sl, rw', jn, asc, ind, nm, pre.length, fl, false, false⟩) l rfl
  have hd : shortB wDD = true := short_of (by decide)
  have hf := word_filter (w := a) (s := ⟨nl, sl, rw', jn, asc, ind, nm, pre.length + 1, fl, false, true⟩) l (by simp)
  rw [if_neg (by simp)] at hf
  rw [runF_step h1 hw, runV_step h1 hw (ok_short hd)]
  by_cases hc : (chkFrom a 0).2 = 0
  · rw [if_pos hc] at hf ⊢
    refine ⟨(runF_step h2 hf).trans rfl, (runV_step h2 hf (by simp [okNow])).trans ?_⟩
    simp only [runV, hl]
    simp
  · rw [if_neg hc] at hf ⊢
    exact ⟨(runF_stop h2 hf).trans rfl, runV_stop h2 hf (by simp [okNow])⟩
theorem fine_err {s : PS} (h : Fine s) : optErr s.asc s.ind = 0 := by
  obtain ⟨h1, h2⟩ := h
  unfold optErr
  rcases h1 with h1 | h1
  · rw [h1]
    cases s.asc <;> decide
  · have : s.asc = false := by
      cases ha : s.asc with
      | true => have := h2 ha; omega
      | false => rfl
    rw [h1, this]
    decide
theorem parse_tail (l : List ByteArray) (n : Nat) (a : ByteArray) (S : PS) (hS : Fine S) (h : runF (wordA l) l l.length ps0 = if (chkFrom a 0).2 = 0 then (none, { S with pl := true, fl := a, fd := true, pos := n + 2 }) else (some (n + 1, (chkFrom a 0).2), { S with pl := true, pos := n + 1 })) :
    parseR (wordA l) l = if (chkFrom a 0).2 = 0 then .tup [optsR S, .sc (.string a), .sc (.int .i64 l.length), .sc (.int .i64 0)] else .tup [opts0, .sc (.string ⟨#[]⟩), .sc (.int .i64 (n + 1 : Nat)), .sc (.int .i64 (chkFrom a 0).2)] := by
  unfold parseR allF
  rw [h]
  by_cases hc : (chkFrom a 0).2 = 0
  · rw [if_pos hc, if_pos hc]
    have e := fine_err hS
    simp only [Bool.true_eq_false, if_false, e, if_true]
    rfl
  · rw [if_neg hc, if_neg hc]
theorem fine0 : Fine ps0 := ⟨.inr rfl, fun h => by cases h⟩
theorem r_one (ks : List UInt8) (hk : ks ≠ []) (h : ∀ c ∈ ks, isL c = true) (hn : ks.length ≤ 20) (a : ByteArray) (ha : a.size ≤ 140737488355328) :
    WOk [oneW ks, wDD, a] ∧ parseR (wordA [oneW ks, wDD, a]) [oneW ks, wDD, a] = if (chkFrom a 0).2 = 0 then .tup [optsR (stF ks ps0), .sc (.string a), .sc (.int .i64 3), .sc (.int .i64 0)] else .tup [opts0, .sc (.string ⟨#[]⟩), .sc (.int .i64 2), .sc (.int .i64 (chkFrom a 0).2)] := by
  obtain ⟨g1, g2, g3, g4⟩ := letters_ok ks h ps0
  obtain ⟨w1, w2⟩ := w_one [oneW ks, wDD, a] hk h ps0 rfl
  obtain ⟨t1, t2⟩ := run_tail [oneW ks, wDD, a] [oneW ks] a rfl { stF ks ps0 with pos := (stF ks ps0).pos + 1 } (by show (stF ks ps0).pl = false; rw [g2.pl]; rfl) (by show (stF ks ps0).fd = false; rw [g2.fd]; rfl) (by show (stF ks ps0).pos + 1 = 1; rw [g2.pos]; rfl)
  have hget : [oneW ks, wDD, a][ps0.pos]? = some (oneW ks) := rfl
  refine ⟨⟨by simp, fun w hw => ?_, ?_⟩, ?_⟩
  · simp only [List.mem_cons, List.not_mem_nil, or_false] at hw
    rcases hw with rfl | rfl | rfl
    · simp only [oneW, ByteArray.size, List.size_toArray, List.length_cons]; omega
    · exact Nat.le_of_ble_eq_true rfl
    · exact ha
  · show runV [oneW ks, wDD, a] (2 + 1) ps0 = true
    rw [runV_step hget w1 (ok_short w2)]
    exact t2
  · refine (parse_tail [oneW ks, wDD, a] 1 a (stF ks ps0) (g3 fine0) ?_).trans rfl
    show runF (wordA [oneW ks, wDD, a]) [oneW ks, wDD, a] (2 + 1) ps0 = _
    rw [runF_step hget w1, t1]
    rfl
theorem r_many (ks : List UInt8) (h : ∀ c ∈ ks, isL c = true) (hn : ks.length ≤ 20) (a : ByteArray) (ha : a.size ≤ 140737488355328) :
    WOk (ks.map cW ++ [wDD, a]) ∧ parseR (wordA (ks.map cW ++ [wDD, a])) (ks.map cW ++ [wDD, a]) = if (chkFrom a 0).2 = 0 then .tup [optsR (stF ks ps0), .sc (.string a), .sc (.int .i64 (ks.length + 2 : Nat)), .sc (.int .i64 0)] else .tup [opts0, .sc (.string ⟨#[]⟩), .sc (.int .i64 (ks.length + 1 : Nat)), .sc (.int .i64 (chkFrom a 0).2)] := by
  obtain ⟨g1, g2, g3, g4⟩ := letters_ok ks h ps0
  have hlen : (ks.map cW ++ [wDD, a]).length = ks.length + 2 := by simp
  obtain ⟨m1, m2⟩ := run_many (ks.map cW ++ [wDD, a]) ks h [] [wDD, a] rfl ps0 rfl rfl 2
  obtain ⟨t1, t2⟩ := run_tail (ks.map cW ++ [wDD, a]) (ks.map cW) a rfl { stF ks ps0 with pos := ([] : List ByteArray).length + ks.length } (by show (stF ks ps0).pl = false; rw [g2.pl]; rfl) (by show (stF ks ps0).fd = false; rw [g2.fd]; rfl) (by simp)
  refine ⟨⟨by rw [hlen]; omega, fun w hw => ?_, ?_⟩, ?_⟩
  · rcases List.mem_append.1 hw with hw | hw
    · obtain ⟨c, _, rfl⟩ := List.mem_map.1 hw
      exact Nat.le_of_ble_eq_true rfl
    · simp only [List.mem_cons, List.not_mem_nil, or_false] at hw
      rcases hw with rfl | rfl
      · exact Nat.le_of_ble_eq_true rfl
      · exact ha
  · rw [hlen, m2]
    exact t2
  · have := parse_tail (ks.map cW ++ [wDD, a]) ks.length a (stF ks ps0) (g3 fine0) (by
      rw [hlen, m1, t1]
      simp)
    rw [this, hlen]
end Go.Proofs.Bv
