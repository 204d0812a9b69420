/-
  A part of the proof of KindsFlatUptoCardSaid: BkRefV, BkRefV1, BkRefV2, BkRefV3, BkRefV4, BkRefW, BkRefE, BkRefF, BkLaw2.
  Conditions: those that each part names.
-/
import Derived.Test.YtegdndonafbcdaaGreatDoorKf15
import Derived.Lib.Strings
set_option linter.unusedSimpArgs false
set_option linter.unusedVariables false
/-
  The reference's First.
  Conditions: none.
-/
namespace Go.Proofs.Bv
open Go
theorem cmp_bytes (s : ByteArray) (l : List Nat) (hl : ∀ d ∈ l, d < 256) (k : Nat) (hk : k ≤ s.size) : ((⟨(l.map UInt8.ofNat).toArray⟩ : ByteArray).toList == (s.extract 0 k).toList) = decide (l = (List.range k).map (bAt s)) := by
  rw [Lib.toList_data, Lib.toList_data]
  have e1 : (s.extract 0 k).data.toList = ((List.range k).map (bAt s)).map UInt8.ofNat := by
    apply List.ext_getElem?
    intro i
    simp only [ByteArray.data_extract, Array.toList_extract, List.extract_eq_take_drop, List.drop_zero, Nat.sub_zero, List.map_map]
    rcases Nat.lt_or_ge i k with h | h
    · have h' : i < s.data.size := Nat.lt_of_lt_of_le h hk
      rw [List.getElem?_take, if_pos h, List.getElem?_map, List.getElem?_range h, Array.getElem?_toList, Array.getElem?_eq_getElem h']
      simp only [Option.map_some, Function.comp, bAt, ByteArray.get!]
      rw [getElem!_pos s.data i h']
      simp
    · rw [List.getElem?_eq_none (by simp; omega), List.getElem?_eq_none (by simp; omega)]
  rw [e1]
  show ((l.map UInt8.ofNat) == _) = _
  have inj : ∀ {a b : List Nat}, (∀ d ∈ a, d < 256) → (∀ d ∈ b, d < 256) → (a.map UInt8.ofNat = b.map UInt8.ofNat ↔ a = b) := by
    intro a
    induction a with
    | nil => intro b _ _; cases b <;> simp
    | cons x a ih =>
      intro b ha hb
      cases b with
      | nil => simp
      | cons y b =>
        simp only [List.map_cons, List.cons.injEq]
        rw [ih (fun d hd => ha d (List.mem_cons_of_mem _ hd)) (fun d hd => hb d (List.mem_cons_of_mem _ hd))]
        have hx := ha x (by simp)
        have hy := hb y (by simp)
        constructor
        · rintro ⟨h1, h2⟩
          refine ⟨?_, h2⟩
          have := congrArg UInt8.toNat h1
          simpa [Nat.mod_eq_of_lt hx, Nat.mod_eq_of_lt hy] using this
        · rintro ⟨rfl, rfl⟩
          exact ⟨rfl, rfl⟩
  rw [Bool.eq_iff_iff, beq_iff_eq, decide_eq_true_eq, inj hl (by intro d hd; simp only [List.mem_map] at hd; obtain ⟨i, _, rfl⟩ := hd; exact bAt_lt s i)]
end Go.Proofs.Bv
/-
  The reference's First, of 1 octets.
  Conditions: none.
-/
namespace Go.Proofs.Bv
open Go
set_option maxHeartbeats 8000000 in
set_option maxRecDepth 100000 in
theorem pc124_1 (G : Nat → Option (List AV)) (s : ByteArray) (c4 : ¬ 240 ≤ bAt s 0) (c3 : ¬ 224 ≤ bAt s 0) (c2 : ¬ 192 ≤ bAt s 0) (hz : ¬ s.size = 0) (hn : s.size ≤ 140737488355328) : Pc (Cf G) 124 [.sc (.string s)] (.tup [.sc (.int .i64 (firstS s).1), .sc (.int .i64 (firstS s).2)]) := by
  unfold firstS firstN
  have hz' : ¬ (s.size : Int) = 0 := by omega
  rw [if_neg hz]
  have B : ∀ i, bAt s i < 256 := bAt_lt s
  have Q : ∀ i, i < s.size → s.data[i]? = some (s.get! i) := fun i hi => by
    have h' : i < s.data.size := hi
    rw [Array.getElem?_eq_getElem h']
    simp only [ByteArray.get!]
    rw [getElem!_pos s.data i h']
  have W : ∀ i, IntKind.i64.wrap (((s.get! i).toNat : Nat) : Int) = ((bAt s i : Nat) : Int) := fun i => by
    have := B i
    unfold bAt at this ⊢
    rw [i64 (by omega) (by omega)]
  have R : ∀ i, ((bAt s i : Nat) : Int).tmod 64 = ((bAt s i % 64 : Nat) : Int) := fun i => by rw [Int.tmod_eq_emod_of_nonneg (by omega)]; omega
  have M : ∀ a : Nat, a ≤ 4294967296 → IntKind.i64.wrap ((a : Int) * 64) = ((a * 64 : Nat) : Int) := fun a ha => by rw [i64 (by omega) (by omega)]; omega
  have A : ∀ a i : Nat, a ≤ 4294967296000 → IntKind.i64.wrap ((a : Int) + ((bAt s i % 64 : Nat) : Int)) = ((a + bAt s i % 64 : Nat) : Int) := fun a i ha => by rw [i64 (by omega) (by omega)]; omega
  have w2 : IntKind.i64.wrap 2 = 2 := i64 (by omega) (by omega)
  have w3 : IntKind.i64.wrap 3 = 3 := i64 (by omega) (by omega)
  have w4 : IntKind.i64.wrap 4 = 4 := i64 (by omega) (by omega)
  have n4 : ∀ k, asNat (.sc (.int k 4)) = some 4 := fun k => rfl
  have q0 := Q 0 (by omega)
  have b0 := B 0
  have b1 := B 1
  have b2 := B 2
  have b3 := B 3
  rw [if_neg c4, if_neg c3, if_neg c2]
  have c4 : ¬ (240 : Int) ≤ ((bAt s 0 : Nat) : Int) := by omega
  have c3 : ¬ (224 : Int) ≤ ((bAt s 0 : Nat) : Int) := by omega
  have c2 : ¬ (192 : Int) ≤ ((bAt s 0 : Nat) : Int) := by omega
  have s0 : (0 : Int) = 0 := rfl
  · have hs' : ¬ (s.size : Int) < 1 := by omega
    have hbd : bnds s.size none (some (.sc (.int .i64 1))) = some (0, 1) := bnds_hi (k := 1) (by omega)
    have hcmp : mayN (bAt s 0) = true → ((⟨((octN (bAt s 0)).map UInt8.ofNat).toArray⟩ : ByteArray).toList == (s.extract 0 1).toList) = decide (octN (bAt s 0) = [bAt s 0]) := fun hm => cmp_bytes s _ (octN_lt _ ((mayN_iff _).1 hm).1) 1 (by omega)
    have h125 := pc125 G (bAt s 0)
    cases hm : mayN (bAt s 0) with
    | false =>
      rw [hm] at h125
      refine Pc_of (Gf_enter (C := Cf G) Tryz.func124 rfl ok124 (Nat.le_of_ble_eq_true rfl) ?_)
      simp only [Tryz.f124, Option.getD_some]
      repeat' first | refine w_op rfl rfl ?_ | refine x_p rfl ?_ | refine w_sr ?_ | refine st_nil ?_ | refine w_seq ?_ | refine st_region ?_ | refine st_block ?_ | refine w_cond ?_ | refine b_t ?_ | refine b_f ?_ | refine st_skip ?_ | refine st_exit ?_ | refine st_ret ?_ | refine st_onNormN ?_ | refine st_onNormE ?_ | refine st_onNormR ?_ | refine st_onExitN ?_ | refine st_onExitR ?_ | refine st_onExitS ?_ | refine st_onExitO (by decide) ?_ | refine g_t ?_ | refine g_f rfl ?_ | refine o_op rfl ?_ | refine w_wr ?_ | refine w_wn ?_ | refine d_c rfl ?_ | refine d_on rfl ?_ | refine d_op rfl ?_ | refine d_y ?_ | refine d_gd rfl ?_ | refine d_t ?_ | refine d_f ?_ | refine d_nil ?_ | refine w_u true ?_ | refine w_dg rfl ?_ | refine d_mid ?_ | refine d_mj ?_ | refine d_e ?_ | refine w_gd rfl ?_ | ((first | refine zE1 ?_); (conv => arg 1; try simp only [go_sem, Nat.reduceEqDiff, reduceIte, Nat.reduceAdd, Nat.reduceLeDiff, Nat.reduceMul, Int.reduceEq, Int.reduceLT, Int.reduceLE, Int.reduceNeg, Int.reduceAdd, Int.reduceSub, Nat.reduceLT, Nat.reduceBEq, Nat.reduceSub, Nat.reducePow, hz', q0, W, R, c4, c3, c2, s0, hs', w2, w3, w4]); first | refine zE3 ?_ | refine zE2 ?_ | refine zE4 ?_ | refine zE5 ?_ | refine zE6 ?_ | refine zE7 ?_ | refine zE8 ?_) | (refine b_s (fun hb => ?_) (fun hb => ?_) <;> ((try simp only [hn1, hn2, hn3, hn4] at hb); first | (exfalso; omega) | skip)) | (first | refine g_s (fun hb => ?_) (fun hb => ?_) | refine d_s (fun hb => ?_) (fun hb => ?_)) <;> ((try simp only [hn1, hn2] at hb); rw [hb]; try simp only [hn3, hn4] at hb)
      refine st_loop ?_
      repeat' first | refine w_op rfl rfl ?_ | refine x_p rfl ?_ | refine w_sr ?_ | refine st_nil ?_ | refine w_seq ?_ | refine st_region ?_ | refine st_block ?_ | refine w_cond ?_ | refine b_t ?_ | refine b_f ?_ | refine st_skip ?_ | refine st_exit ?_ | refine st_ret ?_ | refine st_onNormN ?_ | refine st_onNormE ?_ | refine st_onNormR ?_ | refine st_onExitN ?_ | refine st_onExitR ?_ | refine st_onExitS ?_ | refine st_onExitO (by decide) ?_ | refine g_t ?_ | refine g_f rfl ?_ | refine o_op rfl ?_ | refine w_wr ?_ | refine w_wn ?_ | refine d_c rfl ?_ | refine d_on rfl ?_ | refine d_op rfl ?_ | refine d_y ?_ | refine d_gd rfl ?_ | refine d_t ?_ | refine d_f ?_ | refine d_nil ?_ | refine w_u true ?_ | refine w_dg rfl ?_ | refine d_mid ?_ | refine d_mj ?_ | refine d_e ?_ | refine n_0 rfl ?_ | refine d_n ?_ | refine k_p rfl rfl rfl rfl (h125) ?_ | refine w_gd rfl ?_ | ((first | refine zE1 ?_ | refine w_cl rfl rfl ?_ | refine o_cl rfl ?_ | refine d_cl rfl ?_); (conv => arg 1; try simp only [go_sem, Nat.reduceEqDiff, reduceIte, Nat.reduceAdd, Nat.reduceLeDiff, Nat.reduceMul, Int.reduceEq, Int.reduceLT, Int.reduceLE, Int.reduceNeg, Int.reduceAdd, Int.reduceSub, Nat.reduceLT, Nat.reduceBEq, Nat.reduceSub, Nat.reducePow, hz', W, R, c4, c3, c2, s0, hs', w2, w3, w4, hbd, n4, Option.map_none, Option.isSome_none]); first | refine zE3 ?_ | refine zE2 ?_ | refine zE4 ?_ | refine zE5 ?_ | refine zE6 ?_ | refine zE7 ?_ | refine zE8 ?_) | (refine b_s (fun hb => ?_) (fun hb => ?_) <;> ((try simp only [hn1, hn2, hn3, hn4] at hb); first | (exfalso; omega) | skip)) | (first | refine g_s (fun hb => ?_) (fun hb => ?_) | refine d_s (fun hb => ?_) (fun hb => ?_)) <;> ((try simp only [hn1, hn2] at hb); rw [hb]; try simp only [hn3, hn4] at hb)
      all_goals simp only [one1, frz_t, mapF, frz_s, Option.map_some, List.append_nil, finN, hm]
      all_goals (rw [if_neg (fun h => absurd h.1 (by decide))]; rfl)
    | true =>
      rw [hm] at h125
      have hle := ((mayN_iff (bAt s 0)).1 hm).1
      have h126 := pc126 G (bAt s 0) hle
      have hby := bytesOf_b8s (octN_lt (bAt s 0) hle)
      have hbl : (b8s (octN (bAt s 0))).length = (octN (bAt s 0)).length := by simp [b8s]
      have hcmp := hcmp hm
      refine Pc_of (Gf_enter (C := Cf G) Tryz.func124 rfl ok124 (Nat.le_of_ble_eq_true rfl) ?_)
      simp only [Tryz.f124, Option.getD_some]
      repeat' first | refine w_op rfl rfl ?_ | refine x_p rfl ?_ | refine w_sr ?_ | refine st_nil ?_ | refine w_seq ?_ | refine st_region ?_ | refine st_block ?_ | refine w_cond ?_ | refine b_t ?_ | refine b_f ?_ | refine st_skip ?_ | refine st_exit ?_ | refine st_ret ?_ | refine st_onNormN ?_ | refine st_onNormE ?_ | refine st_onNormR ?_ | refine st_onExitN ?_ | refine st_onExitR ?_ | refine st_onExitS ?_ | refine st_onExitO (by decide) ?_ | refine g_t ?_ | refine g_f rfl ?_ | refine o_op rfl ?_ | refine w_wr ?_ | refine w_wn ?_ | refine d_c rfl ?_ | refine d_on rfl ?_ | refine d_op rfl ?_ | refine d_y ?_ | refine d_gd rfl ?_ | refine d_t ?_ | refine d_f ?_ | refine d_nil ?_ | refine w_u true ?_ | refine w_dg rfl ?_ | refine d_mid ?_ | refine d_mj ?_ | refine d_e ?_ | refine w_gd rfl ?_ | ((first | refine zE1 ?_); (conv => arg 1; try simp only [go_sem, Nat.reduceEqDiff, reduceIte, Nat.reduceAdd, Nat.reduceLeDiff, Nat.reduceMul, Int.reduceEq, Int.reduceLT, Int.reduceLE, Int.reduceNeg, Int.reduceAdd, Int.reduceSub, Nat.reduceLT, Nat.reduceBEq, Nat.reduceSub, Nat.reducePow, hz', q0, W, R, c4, c3, c2, s0, hs', w2, w3, w4]); first | refine zE3 ?_ | refine zE2 ?_ | refine zE4 ?_ | refine zE5 ?_ | refine zE6 ?_ | refine zE7 ?_ | refine zE8 ?_) | (refine b_s (fun hb => ?_) (fun hb => ?_) <;> ((try simp only [hn1, hn2, hn3, hn4] at hb); first | (exfalso; omega) | skip)) | (first | refine g_s (fun hb => ?_) (fun hb => ?_) | refine d_s (fun hb => ?_) (fun hb => ?_)) <;> ((try simp only [hn1, hn2] at hb); rw [hb]; try simp only [hn3, hn4] at hb)
      refine st_loop ?_
      repeat' first | refine w_op rfl rfl ?_ | refine x_p rfl ?_ | refine w_sr ?_ | refine st_nil ?_ | refine w_seq ?_ | refine st_region ?_ | refine st_block ?_ | refine w_cond ?_ | refine b_t ?_ | refine b_f ?_ | refine st_skip ?_ | refine st_exit ?_ | refine st_ret ?_ | refine st_onNormN ?_ | refine st_onNormE ?_ | refine st_onNormR ?_ | refine st_onExitN ?_ | refine st_onExitR ?_ | refine st_onExitS ?_ | refine st_onExitO (by decide) ?_ | refine g_t ?_ | refine g_f rfl ?_ | refine o_op rfl ?_ | refine w_wr ?_ | refine w_wn ?_ | refine d_c rfl ?_ | refine d_on rfl ?_ | refine d_op rfl ?_ | refine d_y ?_ | refine d_gd rfl ?_ | refine d_t ?_ | refine d_f ?_ | refine d_nil ?_ | refine w_u true ?_ | refine w_dg rfl ?_ | refine d_mid ?_ | refine d_mj ?_ | refine d_e ?_ | refine n_0 rfl ?_ | refine d_n ?_ | refine k_p rfl rfl rfl rfl (h125) ?_ | refine k_p rfl rfl rfl rfl (h126) ?_ | refine w_gd rfl ?_ | ((first | refine zE1 ?_ | refine w_cl rfl rfl ?_ | refine o_cl rfl ?_ | refine d_cl rfl ?_); (conv => arg 1; try simp only [go_sem, Nat.reduceEqDiff, reduceIte, Nat.reduceAdd, Nat.reduceLeDiff, Nat.reduceMul, Int.reduceEq, Int.reduceLT, Int.reduceLE, Int.reduceNeg, Int.reduceAdd, Int.reduceSub, Nat.reduceLT, Nat.reduceBEq, Nat.reduceSub, Nat.reducePow, hz', W, R, c4, c3, c2, s0, hs', w2, w3, w4, readSl, hbl, hby, hcmp, hbd, n4, Option.map_none, Option.isSome_none]); first | refine zE3 ?_ | refine zE2 ?_ | refine zE4 ?_ | refine zE5 ?_ | refine zE6 ?_ | refine zE7 ?_ | refine zE8 ?_) | (refine b_s (fun hb => ?_) (fun hb => ?_) <;> ((try simp only [hn1, hn2, hn3, hn4] at hb); first | (exfalso; omega) | skip)) | (first | refine g_s (fun hb => ?_) (fun hb => ?_) | refine d_s (fun hb => ?_) (fun hb => ?_)) <;> ((try simp only [hn1, hn2] at hb); rw [hb]; try simp only [hn3, hn4] at hb)
      all_goals simp only [one1, frz_t, mapF, frz_s, Option.map_some, List.append_nil, finN, hm]
      all_goals first | (rw [if_pos ⟨trivial, hb⟩]; rfl) | (rw [if_neg (fun h => hb h.2)]; rfl)
end Go.Proofs.Bv
/-
  The reference's First, of 2 octets.
  Conditions: none.
-/
namespace Go.Proofs.Bv
open Go
set_option maxHeartbeats 8000000 in
set_option maxRecDepth 100000 in
theorem pc124_2 (G : Nat → Option (List AV)) (s : ByteArray) (c4 : ¬ 240 ≤ bAt s 0) (c3 : ¬ 224 ≤ bAt s 0) (c2 : 192 ≤ bAt s 0) (hz : ¬ s.size = 0) (hn : s.size ≤ 140737488355328) : Pc (Cf G) 124 [.sc (.string s)] (.tup [.sc (.int .i64 (firstS s).1), .sc (.int .i64 (firstS s).2)]) := by
  unfold firstS firstN
  have hz' : ¬ (s.size : Int) = 0 := by omega
  rw [if_neg hz]
  have B : ∀ i, bAt s i < 256 := bAt_lt s
  have Q : ∀ i, i < s.size → s.data[i]? = some (s.get! i) := fun i hi => by
    have h' : i < s.data.size := hi
    rw [Array.getElem?_eq_getElem h']
    simp only [ByteArray.get!]
    rw [getElem!_pos s.data i h']
  have W : ∀ i, IntKind.i64.wrap (((s.get! i).toNat : Nat) : Int) = ((bAt s i : Nat) : Int) := fun i => by
    have := B i
    unfold bAt at this ⊢
    rw [i64 (by omega) (by omega)]
  have R : ∀ i, ((bAt s i : Nat) : Int).tmod 64 = ((bAt s i % 64 : Nat) : Int) := fun i => by rw [Int.tmod_eq_emod_of_nonneg (by omega)]; omega
  have M : ∀ a : Nat, a ≤ 4294967296 → IntKind.i64.wrap ((a : Int) * 64) = ((a * 64 : Nat) : Int) := fun a ha => by rw [i64 (by omega) (by omega)]; omega
  have A : ∀ a i : Nat, a ≤ 4294967296000 → IntKind.i64.wrap ((a : Int) + ((bAt s i % 64 : Nat) : Int)) = ((a + bAt s i % 64 : Nat) : Int) := fun a i ha => by rw [i64 (by omega) (by omega)]; omega
  have w2 : IntKind.i64.wrap 2 = 2 := i64 (by omega) (by omega)
  have w3 : IntKind.i64.wrap 3 = 3 := i64 (by omega) (by omega)
  have w4 : IntKind.i64.wrap 4 = 4 := i64 (by omega) (by omega)
  have n4 : ∀ k, asNat (.sc (.int k 4)) = some 4 := fun k => rfl
  have q0 := Q 0 (by omega)
  have b0 := B 0
  have b1 := B 1
  have b2 := B 2
  have b3 := B 3
  rw [if_neg c4, if_neg c3, if_pos c2]
  have c4 : ¬ (240 : Int) ≤ ((bAt s 0 : Nat) : Int) := by omega
  have c3 : ¬ (224 : Int) ≤ ((bAt s 0 : Nat) : Int) := by omega
  have c2 : (192 : Int) ≤ ((bAt s 0 : Nat) : Int) := by omega
  have s0 : IntKind.i64.wrap (((bAt s 0 : Nat) : Int) - 192) = ((bAt s 0 - 192 : Nat) : Int) := by rw [i64 (by omega) (by omega)]; omega
  by_cases hs : s.size < 2
  · have hs' : (s.size : Int) < 2 := by omega
    rw [if_pos hs]
    refine Pc_of (Gf_enter (C := Cf G) Tryz.func124 rfl ok124 (Nat.le_of_ble_eq_true rfl) ?_)
    simp only [Tryz.f124, Option.getD_some]
    repeat' first | refine w_op rfl rfl ?_ | refine x_p rfl ?_ | refine w_sr ?_ | refine st_nil ?_ | refine w_seq ?_ | refine st_region ?_ | refine st_block ?_ | refine w_cond ?_ | refine b_t ?_ | refine b_f ?_ | refine st_skip ?_ | refine st_exit ?_ | refine st_ret ?_ | refine st_onNormN ?_ | refine st_onNormE ?_ | refine st_onNormR ?_ | refine st_onExitN ?_ | refine st_onExitR ?_ | refine st_onExitS ?_ | refine st_onExitO (by decide) ?_ | refine g_t ?_ | refine g_f rfl ?_ | refine o_op rfl ?_ | refine w_wr ?_ | refine w_wn ?_ | refine d_c rfl ?_ | refine d_on rfl ?_ | refine d_op rfl ?_ | refine d_y ?_ | refine d_gd rfl ?_ | refine d_t ?_ | refine d_f ?_ | refine d_nil ?_ | refine w_u true ?_ | refine w_dg rfl ?_ | refine d_mid ?_ | refine d_mj ?_ | refine d_e ?_ | refine w_gd rfl ?_ | ((first | refine zE1 ?_); (conv => arg 1; try simp only [go_sem, Nat.reduceEqDiff, reduceIte, Nat.reduceAdd, Nat.reduceLeDiff, Nat.reduceMul, Int.reduceEq, Int.reduceLT, Int.reduceLE, Int.reduceNeg, Int.reduceAdd, Int.reduceSub, Nat.reduceLT, Nat.reduceBEq, Nat.reduceSub, Nat.reducePow, hz', q0, W, c4, c3, c2, s0, hs']); first | refine zE3 ?_ | refine zE2 ?_ | refine zE4 ?_ | refine zE5 ?_ | refine zE6 ?_ | refine zE7 ?_ | refine zE8 ?_) | (refine b_s (fun hb => ?_) (fun hb => ?_) <;> ((try simp only [hn1, hn2, hn3, hn4] at hb); first | (exfalso; omega) | skip)) | (first | refine g_s (fun hb => ?_) (fun hb => ?_) | refine d_s (fun hb => ?_) (fun hb => ?_)) <;> ((try simp only [hn1, hn2] at hb); rw [hb]; try simp only [hn3, hn4] at hb)
    rfl
  · have hs' : ¬ (s.size : Int) < 2 := by omega
    rw [if_neg hs]
    have q1 := Q 1 (by omega)
    have m1 := M (bAt s 0 - 192) (by omega)
    have a1 := A ((bAt s 0 - 192) * 64) 1 (by omega)
    have hbd : bnds s.size none (some (.sc (.int .i64 2))) = some (0, 2) := by
      simp only [bnds, asNat]
      rw [if_pos (by omega)]
      simp
      omega
    have hcmp : mayN ((bAt s 0 - 192) * 64 + bAt s 1 % 64) = true → ((⟨((octN ((bAt s 0 - 192) * 64 + bAt s 1 % 64)).map UInt8.ofNat).toArray⟩ : ByteArray).toList == (s.extract 0 2).toList) = decide (octN ((bAt s 0 - 192) * 64 + bAt s 1 % 64) = [bAt s 0, bAt s 1]) := fun hm => cmp_bytes s _ (octN_lt _ ((mayN_iff _).1 hm).1) 2 (by omega)
    generalize hv : ((bAt s 0 - 192) * 64 + bAt s 1 % 64) = v at *
    have h125 := pc125 G v
    cases hm : mayN v with
    | false =>
      rw [hm] at h125
      refine Pc_of (Gf_enter (C := Cf G) Tryz.func124 rfl ok124 (Nat.le_of_ble_eq_true rfl) ?_)
      simp only [Tryz.f124, Option.getD_some]
      repeat' first | refine w_op rfl rfl ?_ | refine x_p rfl ?_ | refine w_sr ?_ | refine st_nil ?_ | refine w_seq ?_ | refine st_region ?_ | refine st_block ?_ | refine w_cond ?_ | refine b_t ?_ | refine b_f ?_ | refine st_skip ?_ | refine st_exit ?_ | refine st_ret ?_ | refine st_onNormN ?_ | refine st_onNormE ?_ | refine st_onNormR ?_ | refine st_onExitN ?_ | refine st_onExitR ?_ | refine st_onExitS ?_ | refine st_onExitO (by decide) ?_ | refine g_t ?_ | refine g_f rfl ?_ | refine o_op rfl ?_ | refine w_wr ?_ | refine w_wn ?_ | refine d_c rfl ?_ | refine d_on rfl ?_ | refine d_op rfl ?_ | refine d_y ?_ | refine d_gd rfl ?_ | refine d_t ?_ | refine d_f ?_ | refine d_nil ?_ | refine w_u true ?_ | refine w_dg rfl ?_ | refine d_mid ?_ | refine d_mj ?_ | refine d_e ?_ | refine w_gd rfl ?_ | ((first | refine zE1 ?_); (conv => arg 1; try simp only [go_sem, Nat.reduceEqDiff, reduceIte, Nat.reduceAdd, Nat.reduceLeDiff, Nat.reduceMul, Int.reduceEq, Int.reduceLT, Int.reduceLE, Int.reduceNeg, Int.reduceAdd, Int.reduceSub, Nat.reduceLT, Nat.reduceBEq, Nat.reduceSub, Nat.reducePow, hz', q0, W, R, c4, c3, c2, s0, hs', w2, w3, w4]); first | refine zE3 ?_ | refine zE2 ?_ | refine zE4 ?_ | refine zE5 ?_ | refine zE6 ?_ | refine zE7 ?_ | refine zE8 ?_) | (refine b_s (fun hb => ?_) (fun hb => ?_) <;> ((try simp only [hn1, hn2, hn3, hn4] at hb); first | (exfalso; omega) | skip)) | (first | refine g_s (fun hb => ?_) (fun hb => ?_) | refine d_s (fun hb => ?_) (fun hb => ?_)) <;> ((try simp only [hn1, hn2] at hb); rw [hb]; try simp only [hn3, hn4] at hb)
      refine st_loop ?_
      repeat' first | refine w_op rfl rfl ?_ | refine x_p rfl ?_ | refine w_sr ?_ | refine st_nil ?_ | refine w_seq ?_ | refine st_region ?_ | refine st_block ?_ | refine w_cond ?_ | refine b_t ?_ | refine b_f ?_ | refine st_skip ?_ | refine st_exit ?_ | refine st_ret ?_ | refine st_onNormN ?_ | refine st_onNormE ?_ | refine st_onNormR ?_ | refine st_onExitN ?_ | refine st_onExitR ?_ | refine st_onExitS ?_ | refine st_onExitO (by decide) ?_ | refine g_t ?_ | refine g_f rfl ?_ | refine o_op rfl ?_ | refine w_wr ?_ | refine w_wn ?_ | refine d_c rfl ?_ | refine d_on rfl ?_ | refine d_op rfl ?_ | refine d_y ?_ | refine d_gd rfl ?_ | refine d_t ?_ | refine d_f ?_ | refine d_nil ?_ | refine w_u true ?_ | refine w_dg rfl ?_ | refine d_mid ?_ | refine d_mj ?_ | refine d_e ?_ | refine n_0 rfl ?_ | refine d_n ?_ | refine k_p rfl rfl rfl rfl (h125) ?_ | refine w_gd rfl ?_ | ((first | refine zE1 ?_ | refine w_cl rfl rfl ?_ | refine o_cl rfl ?_ | refine d_cl rfl ?_); (conv => arg 1; try simp only [go_sem, Nat.reduceEqDiff, reduceIte, Nat.reduceAdd, Nat.reduceLeDiff, Nat.reduceMul, Int.reduceEq, Int.reduceLT, Int.reduceLE, Int.reduceNeg, Int.reduceAdd, Int.reduceSub, Nat.reduceLT, Nat.reduceBEq, Nat.reduceSub, Nat.reducePow, hz', W, R, q1, m1, a1, c4, c3, c2, s0, hs', w2, w3, w4, hbd, n4, Option.map_none, Option.isSome_none]); first | refine zE3 ?_ | refine zE2 ?_ | refine zE4 ?_ | refine zE5 ?_ | refine zE6 ?_ | refine zE7 ?_ | refine zE8 ?_) | (refine b_s (fun hb => ?_) (fun hb => ?_) <;> ((try simp only [hn1, hn2, hn3, hn4] at hb); first | (exfalso; omega) | skip)) | (first | refine g_s (fun hb => ?_) (fun hb => ?_) | refine d_s (fun hb => ?_) (fun hb => ?_)) <;> ((try simp only [hn1, hn2] at hb); rw [hb]; try simp only [hn3, hn4] at hb)
      refine st_loop ?_
      repeat' first | refine w_op rfl rfl ?_ | refine x_p rfl ?_ | refine w_sr ?_ | refine st_nil ?_ | refine w_seq ?_ | refine st_region ?_ | refine st_block ?_ | refine w_cond ?_ | refine b_t ?_ | refine b_f ?_ | refine st_skip ?_ | refine st_exit ?_ | refine st_ret ?_ | refine st_onNormN ?_ | refine st_onNormE ?_ | refine st_onNormR ?_ | refine st_onExitN ?_ | refine st_onExitR ?_ | refine st_onExitS ?_ | refine st_onExitO (by decide) ?_ | refine g_t ?_ | refine g_f rfl ?_ | refine o_op rfl ?_ | refine w_wr ?_ | refine w_wn ?_ | refine d_c rfl ?_ | refine d_on rfl ?_ | refine d_op rfl ?_ | refine d_y ?_ | refine d_gd rfl ?_ | refine d_t ?_ | refine d_f ?_ | refine d_nil ?_ | refine w_u true ?_ | refine w_dg rfl ?_ | refine d_mid ?_ | refine d_mj ?_ | refine d_e ?_ | refine n_0 rfl ?_ | refine d_n ?_ | refine k_p rfl rfl rfl rfl (h125) ?_ | refine w_gd rfl ?_ | ((first | refine zE1 ?_ | refine w_cl rfl rfl ?_ | refine o_cl rfl ?_ | refine d_cl rfl ?_); (conv => arg 1; try simp only [go_sem, Nat.reduceEqDiff, reduceIte, Nat.reduceAdd, Nat.reduceLeDiff, Nat.reduceMul, Int.reduceEq, Int.reduceLT, Int.reduceLE, Int.reduceNeg, Int.reduceAdd, Int.reduceSub, Nat.reduceLT, Nat.reduceBEq, Nat.reduceSub, Nat.reducePow, hz', W, R, q1, m1, a1, c4, c3, c2, s0, hs', w2, w3, w4, hbd, n4, Option.map_none, Option.isSome_none]); first | refine zE3 ?_ | refine zE2 ?_ | refine zE4 ?_ | refine zE5 ?_ | refine zE6 ?_ | refine zE7 ?_ | refine zE8 ?_) | (refine b_s (fun hb => ?_) (fun hb => ?_) <;> ((try simp only [hn1, hn2, hn3, hn4] at hb); first | (exfalso; omega) | skip)) | (first | refine g_s (fun hb => ?_) (fun hb => ?_) | refine d_s (fun hb => ?_) (fun hb => ?_)) <;> ((try simp only [hn1, hn2] at hb); rw [hb]; try simp only [hn3, hn4] at hb)
      all_goals simp only [one1, frz_t, mapF, frz_s, Option.map_some, List.append_nil, finN, hm, hv]
      all_goals (rw [if_neg (fun h => absurd h.1 (by decide))]; rfl)
    | true =>
      rw [hm] at h125
      have hle := ((mayN_iff v).1 hm).1
      have h126 := pc126 G v hle
      have hby := bytesOf_b8s (octN_lt v hle)
      have hbl : (b8s (octN v)).length = (octN v).length := by simp [b8s]
      have hcmp := hcmp hm
      refine Pc_of (Gf_enter (C := Cf G) Tryz.func124 rfl ok124 (Nat.le_of_ble_eq_true rfl) ?_)
      simp only [Tryz.f124, Option.getD_some]
      repeat' first | refine w_op rfl rfl ?_ | refine x_p rfl ?_ | refine w_sr ?_ | refine st_nil ?_ | refine w_seq ?_ | refine st_region ?_ | refine st_block ?_ | refine w_cond ?_ | refine b_t ?_ | refine b_f ?_ | refine st_skip ?_ | refine st_exit ?_ | refine st_ret ?_ | refine st_onNormN ?_ | refine st_onNormE ?_ | refine st_onNormR ?_ | refine st_onExitN ?_ | refine st_onExitR ?_ | refine st_onExitS ?_ | refine st_onExitO (by decide) ?_ | refine g_t ?_ | refine g_f rfl ?_ | refine o_op rfl ?_ | refine w_wr ?_ | refine w_wn ?_ | refine d_c rfl ?_ | refine d_on rfl ?_ | refine d_op rfl ?_ | refine d_y ?_ | refine d_gd rfl ?_ | refine d_t ?_ | refine d_f ?_ | refine d_nil ?_ | refine w_u true ?_ | refine w_dg rfl ?_ | refine d_mid ?_ | refine d_mj ?_ | refine d_e ?_ | refine w_gd rfl ?_ | ((first | refine zE1 ?_); (conv => arg 1; try simp only [go_sem, Nat.reduceEqDiff, reduceIte, Nat.reduceAdd, Nat.reduceLeDiff, Nat.reduceMul, Int.reduceEq, Int.reduceLT, Int.reduceLE, Int.reduceNeg, Int.reduceAdd, Int.reduceSub, Nat.reduceLT, Nat.reduceBEq, Nat.reduceSub, Nat.reducePow, hz', q0, W, R, c4, c3, c2, s0, hs', w2, w3, w4]); first | refine zE3 ?_ | refine zE2 ?_ | refine zE4 ?_ | refine zE5 ?_ | refine zE6 ?_ | refine zE7 ?_ | refine zE8 ?_) | (refine b_s (fun hb => ?_) (fun hb => ?_) <;> ((try simp only [hn1, hn2, hn3, hn4] at hb); first | (exfalso; omega) | skip)) | (first | refine g_s (fun hb => ?_) (fun hb => ?_) | refine d_s (fun hb => ?_) (fun hb => ?_)) <;> ((try simp only [hn1, hn2] at hb); rw [hb]; try simp only [hn3, hn4] at hb)
      refine st_loop ?_
      repeat' first | refine w_op rfl rfl ?_ | refine x_p rfl ?_ | refine w_sr ?_ | refine st_nil ?_ | refine w_seq ?_ | refine st_region ?_ | refine st_block ?_ | refine w_cond ?_ | refine b_t ?_ | refine b_f ?_ | refine st_skip ?_ | refine st_exit ?_ | refine st_ret ?_ | refine st_onNormN ?_ | refine st_onNormE ?_ | refine st_onNormR ?_ | refine st_onExitN ?_ | refine st_onExitR ?_ | refine st_onExitS ?_ | refine st_onExitO (by decide) ?_ | refine g_t ?_ | refine g_f rfl ?_ | refine o_op rfl ?_ | refine w_wr ?_ | refine w_wn ?_ | refine d_c rfl ?_ | refine d_on rfl ?_ | refine d_op rfl ?_ | refine d_y ?_ | refine d_gd rfl ?_ | refine d_t ?_ | refine d_f ?_ | refine d_nil ?_ | refine w_u true ?_ | refine w_dg rfl ?_ | refine d_mid ?_ | refine d_mj ?_ | refine d_e ?_ | refine n_0 rfl ?_ | refine d_n ?_ | refine k_p rfl rfl rfl rfl (h125) ?_ | refine k_p rfl rfl rfl rfl (h126) ?_ | refine w_gd rfl ?_ | ((first | refine zE1 ?_ | refine w_cl rfl rfl ?_ | refine o_cl rfl ?_ | refine d_cl rfl ?_); (conv => arg 1; try simp only [go_sem, Nat.reduceEqDiff, reduceIte, Nat.reduceAdd, Nat.reduceLeDiff, Nat.reduceMul, Int.reduceEq, Int.reduceLT, Int.reduceLE, Int.reduceNeg, Int.reduceAdd, Int.reduceSub, Nat.reduceLT, Nat.reduceBEq, Nat.reduceSub, Nat.reducePow, hz', W, R, q1, m1, a1, c4, c3, c2, s0, hs', w2, w3, w4, readSl, hbl, hby, hcmp, hbd, n4, Option.map_none, Option.isSome_none]); first | refine zE3 ?_ | refine zE2 ?_ | refine zE4 ?_ | refine zE5 ?_ | refine zE6 ?_ | refine zE7 ?_ | refine zE8 ?_) | (refine b_s (fun hb => ?_) (fun hb => ?_) <;> ((try simp only [hn1, hn2, hn3, hn4] at hb); first | (exfalso; omega) | skip)) | (first | refine g_s (fun hb => ?_) (fun hb => ?_) | refine d_s (fun hb => ?_) (fun hb => ?_)) <;> ((try simp only [hn1, hn2] at hb); rw [hb]; try simp only [hn3, hn4] at hb)
      refine st_loop ?_
      repeat' first | refine w_op rfl rfl ?_ | refine x_p rfl ?_ | refine w_sr ?_ | refine st_nil ?_ | refine w_seq ?_ | refine st_region ?_ | refine st_block ?_ | refine w_cond ?_ | refine b_t ?_ | refine b_f ?_ | refine st_skip ?_ | refine st_exit ?_ | refine st_ret ?_ | refine st_onNormN ?_ | refine st_onNormE ?_ | refine st_onNormR ?_ | refine st_onExitN ?_ | refine st_onExitR ?_ | refine st_onExitS ?_ | refine st_onExitO (by decide) ?_ | refine g_t ?_ | refine g_f rfl ?_ | refine o_op rfl ?_ | refine w_wr ?_ | refine w_wn ?_ | refine d_c rfl ?_ | refine d_on rfl ?_ | refine d_op rfl ?_ | refine d_y ?_ | refine d_gd rfl ?_ | refine d_t ?_ | refine d_f ?_ | refine d_nil ?_ | refine w_u true ?_ | refine w_dg rfl ?_ | refine d_mid ?_ | refine d_mj ?_ | refine d_e ?_ | refine n_0 rfl ?_ | refine d_n ?_ | refine k_p rfl rfl rfl rfl (h125) ?_ | refine k_p rfl rfl rfl rfl (h126) ?_ | refine w_gd rfl ?_ | ((first | refine zE1 ?_ | refine w_cl rfl rfl ?_ | refine o_cl rfl ?_ | refine d_cl rfl ?_); (conv => arg 1; try simp only [go_sem, Nat.reduceEqDiff, reduceIte, Nat.reduceAdd, Nat.reduceLeDiff, Nat.reduceMul, Int.reduceEq, Int.reduceLT, Int.reduceLE, Int.reduceNeg, Int.reduceAdd, Int.reduceSub, Nat.reduceLT, Nat.reduceBEq, Nat.reduceSub, Nat.reducePow, hz', W, R, q1, m1, a1, c4, c3, c2, s0, hs', w2, w3, w4, readSl, hbl, hby, hcmp, hbd, n4, Option.map_none, Option.isSome_none]); first | refine zE3 ?_ | refine zE2 ?_ | refine zE4 ?_ | refine zE5 ?_ | refine zE6 ?_ | refine zE7 ?_ | refine zE8 ?_) | (refine b_s (fun hb => ?_) (fun hb => ?_) <;> ((try simp only [hn1, hn2, hn3, hn4] at hb); first | (exfalso; omega) | skip)) | (first | refine g_s (fun hb => ?_) (fun hb => ?_) | refine d_s (fun hb => ?_) (fun hb => ?_)) <;> ((try simp only [hn1, hn2] at hb); rw [hb]; try simp only [hn3, hn4] at hb)
      all_goals simp only [one1, frz_t, mapF, frz_s, Option.map_some, List.append_nil, finN, hm, hv]
      all_goals first | (rw [if_pos ⟨trivial, hb⟩]; rfl) | (rw [if_neg (fun h => hb h.2)]; rfl)
end Go.Proofs.Bv
/-
  The reference's First, of 3 octets.
  Conditions: none.
-/
namespace Go.Proofs.Bv
open Go
set_option maxHeartbeats 8000000 in
set_option maxRecDepth 100000 in
theorem pc124_3 (G : Nat → Option (List AV)) (s : ByteArray) (c4 : ¬ 240 ≤ bAt s 0) (c3 : 224 ≤ bAt s 0) (hz : ¬ s.size = 0) (hn : s.size ≤ 140737488355328) : Pc (Cf G) 124 [.sc (.string s)] (.tup [.sc (.int .i64 (firstS s).1), .sc (.int .i64 (firstS s).2)]) := by
  unfold firstS firstN
  have hz' : ¬ (s.size : Int) = 0 := by omega
  rw [if_neg hz]
  have B : ∀ i, bAt s i < 256 := bAt_lt s
  have Q : ∀ i, i < s.size → s.data[i]? = some (s.get! i) := fun i hi => by
    have h' : i < s.data.size := hi
    rw [Array.getElem?_eq_getElem h']
    simp only [ByteArray.get!]
    rw [getElem!_pos s.data i h']
  have W : ∀ i, IntKind.i64.wrap (((s.get! i).toNat : Nat) : Int) = ((bAt s i : Nat) : Int) := fun i => by
    have := B i
    unfold bAt at this ⊢
    rw [i64 (by omega) (by omega)]
  have R : ∀ i, ((bAt s i : Nat) : Int).tmod 64 = ((bAt s i % 64 : Nat) : Int) := fun i => by rw [Int.tmod_eq_emod_of_nonneg (by omega)]; omega
  have M : ∀ a : Nat, a ≤ 4294967296 → IntKind.i64.wrap ((a : Int) * 64) = ((a * 64 : Nat) : Int) := fun a ha => by rw [i64 (by omega) (by omega)]; omega
  have A : ∀ a i : Nat, a ≤ 4294967296000 → IntKind.i64.wrap ((a : Int) + ((bAt s i % 64 : Nat) : Int)) = ((a + bAt s i % 64 : Nat) : Int) := fun a i ha => by rw [i64 (by omega) (by omega)]; omega
  have w2 : IntKind.i64.wrap 2 = 2 := i64 (by omega) (by omega)
  have w3 : IntKind.i64.wrap 3 = 3 := i64 (by omega) (by omega)
  have w4 : IntKind.i64.wrap 4 = 4 := i64 (by omega) (by omega)
  have n4 : ∀ k, asNat (.sc (.int k 4)) = some 4 := fun k => rfl
  have q0 := Q 0 (by omega)
  have b0 := B 0
  have b1 := B 1
  have b2 := B 2
  have b3 := B 3
  rw [if_neg c4, if_pos c3]
  have c4 : ¬ (240 : Int) ≤ ((bAt s 0 : Nat) : Int) := by omega
  have c3 : (224 : Int) ≤ ((bAt s 0 : Nat) : Int) := by omega
  have s0 : IntKind.i64.wrap (((bAt s 0 : Nat) : Int) - 224) = ((bAt s 0 - 224 : Nat) : Int) := by rw [i64 (by omega) (by omega)]; omega
  by_cases hs : s.size < 3
  · have hs' : (s.size : Int) < 3 := by omega
    rw [if_pos hs]
    refine Pc_of (Gf_enter (C := Cf G) Tryz.func124 rfl ok124 (Nat.le_of_ble_eq_true rfl) ?_)
    simp only [Tryz.f124, Option.getD_some]
    repeat' first | refine w_op rfl rfl ?_ | refine x_p rfl ?_ | refine w_sr ?_ | refine st_nil ?_ | refine w_seq ?_ | refine st_region ?_ | refine st_block ?_ | refine w_cond ?_ | refine b_t ?_ | refine b_f ?_ | refine st_skip ?_ | refine st_exit ?_ | refine st_ret ?_ | refine st_onNormN ?_ | refine st_onNormE ?_ | refine st_onNormR ?_ | refine st_onExitN ?_ | refine st_onExitR ?_ | refine st_onExitS ?_ | refine st_onExitO (by decide) ?_ | refine g_t ?_ | refine g_f rfl ?_ | refine o_op rfl ?_ | refine w_wr ?_ | refine w_wn ?_ | refine d_c rfl ?_ | refine d_on rfl ?_ | refine d_op rfl ?_ | refine d_y ?_ | refine d_gd rfl ?_ | refine d_t ?_ | refine d_f ?_ | refine d_nil ?_ | refine w_u true ?_ | refine w_dg rfl ?_ | refine d_mid ?_ | refine d_mj ?_ | refine d_e ?_ | refine w_gd rfl ?_ | ((first | refine zE1 ?_); (conv => arg 1; try simp only [go_sem, Nat.reduceEqDiff, reduceIte, Nat.reduceAdd, Nat.reduceLeDiff, Nat.reduceMul, Int.reduceEq, Int.reduceLT, Int.reduceLE, Int.reduceNeg, Int.reduceAdd, Int.reduceSub, Nat.reduceLT, Nat.reduceBEq, Nat.reduceSub, Nat.reducePow, hz', q0, W, c4, c3, s0, hs']); first | refine zE3 ?_ | refine zE2 ?_ | refine zE4 ?_ | refine zE5 ?_ | refine zE6 ?_ | refine zE7 ?_ | refine zE8 ?_) | (refine b_s (fun hb => ?_) (fun hb => ?_) <;> ((try simp only [hn1, hn2, hn3, hn4] at hb); first | (exfalso; omega) | skip)) | (first | refine g_s (fun hb => ?_) (fun hb => ?_) | refine d_s (fun hb => ?_) (fun hb => ?_)) <;> ((try simp only [hn1, hn2] at hb); rw [hb]; try simp only [hn3, hn4] at hb)
    rfl
  · have hs' : ¬ (s.size : Int) < 3 := by omega
    rw [if_neg hs]
    have q1 := Q 1 (by omega)
    have m1 := M (bAt s 0 - 224) (by omega)
    have a1 := A ((bAt s 0 - 224) * 64) 1 (by omega)
    have q2 := Q 2 (by omega)
    have m2 := M ((bAt s 0 - 224) * 64 + bAt s 1 % 64) (by omega)
    have a2 := A (((bAt s 0 - 224) * 64 + bAt s 1 % 64) * 64) 2 (by omega)
    have hbd : bnds s.size none (some (.sc (.int .i64 3))) = some (0, 3) := by
      simp only [bnds, asNat]
      rw [if_pos (by omega)]
      simp
      omega
    have hcmp : mayN (((bAt s 0 - 224) * 64 + bAt s 1 % 64) * 64 + bAt s 2 % 64) = true → ((⟨((octN (((bAt s 0 - 224) * 64 + bAt s 1 % 64) * 64 + bAt s 2 % 64)).map UInt8.ofNat).toArray⟩ : ByteArray).toList == (s.extract 0 3).toList) = decide (octN (((bAt s 0 - 224) * 64 + bAt s 1 % 64) * 64 + bAt s 2 % 64) = [bAt s 0, bAt s 1, bAt s 2]) := fun hm => cmp_bytes s _ (octN_lt _ ((mayN_iff _).1 hm).1) 3 (by omega)
    generalize hv : (((bAt s 0 - 224) * 64 + bAt s 1 % 64) * 64 + bAt s 2 % 64) = v at *
    have h125 := pc125 G v
    cases hm : mayN v with
    | false =>
      rw [hm] at h125
      refine Pc_of (Gf_enter (C := Cf G) Tryz.func124 rfl ok124 (Nat.le_of_ble_eq_true rfl) ?_)
      simp only [Tryz.f124, Option.getD_some]
      repeat' first | refine w_op rfl rfl ?_ | refine x_p rfl ?_ | refine w_sr ?_ | refine st_nil ?_ | refine w_seq ?_ | refine st_region ?_ | refine st_block ?_ | refine w_cond ?_ | refine b_t ?_ | refine b_f ?_ | refine st_skip ?_ | refine st_exit ?_ | refine st_ret ?_ | refine st_onNormN ?_ | refine st_onNormE ?_ | refine st_onNormR ?_ | refine st_onExitN ?_ | refine st_onExitR ?_ | refine st_onExitS ?_ | refine st_onExitO (by decide) ?_ | refine g_t ?_ | refine g_f rfl ?_ | refine o_op rfl ?_ | refine w_wr ?_ | refine w_wn ?_ | refine d_c rfl ?_ | refine d_on rfl ?_ | refine d_op rfl ?_ | refine d_y ?_ | refine d_gd rfl ?_ | refine d_t ?_ | refine d_f ?_ | refine d_nil ?_ | refine w_u true ?_ | refine w_dg rfl ?_ | refine d_mid ?_ | refine d_mj ?_ | refine d_e ?_ | refine w_gd rfl ?_ | ((first | refine zE1 ?_); (conv => arg 1; try simp only [go_sem, Nat.reduceEqDiff, reduceIte, Nat.reduceAdd, Nat.reduceLeDiff, Nat.reduceMul, Int.reduceEq, Int.reduceLT, Int.reduceLE, Int.reduceNeg, Int.reduceAdd, Int.reduceSub, Nat.reduceLT, Nat.reduceBEq, Nat.reduceSub, Nat.reducePow, hz', q0, W, R, c4, c3, s0, hs', w2, w3, w4]); first | refine zE3 ?_ | refine zE2 ?_ | refine zE4 ?_ | refine zE5 ?_ | refine zE6 ?_ | refine zE7 ?_ | refine zE8 ?_) | (refine b_s (fun hb => ?_) (fun hb => ?_) <;> ((try simp only [hn1, hn2, hn3, hn4] at hb); first | (exfalso; omega) | skip)) | (first | refine g_s (fun hb => ?_) (fun hb => ?_) | refine d_s (fun hb => ?_) (fun hb => ?_)) <;> ((try simp only [hn1, hn2] at hb); rw [hb]; try simp only [hn3, hn4] at hb)
      refine st_loop ?_
      repeat' first | refine w_op rfl rfl ?_ | refine x_p rfl ?_ | refine w_sr ?_ | refine st_nil ?_ | refine w_seq ?_ | refine st_region ?_ | refine st_block ?_ | refine w_cond ?_ | refine b_t ?_ | refine b_f ?_ | refine st_skip ?_ | refine st_exit ?_ | refine st_ret ?_ | refine st_onNormN ?_ | refine st_onNormE ?_ | refine st_onNormR ?_ | refine st_onExitN ?_ | refine st_onExitR ?_ | refine st_onExitS ?_ | refine st_onExitO (by decide) ?_ | refine g_t ?_ | refine g_f rfl ?_ | refine o_op rfl ?_ | refine w_wr ?_ | refine w_wn ?_ | refine d_c rfl ?_ | refine d_on rfl ?_ | refine d_op rfl ?_ | refine d_y ?_ | refine d_gd rfl ?_ | refine d_t ?_ | refine d_f ?_ | refine d_nil ?_ | refine w_u true ?_ | refine w_dg rfl ?_ | refine d_mid ?_ | refine d_mj ?_ | refine d_e ?_ | refine n_0 rfl ?_ | refine d_n ?_ | refine k_p rfl rfl rfl rfl (h125) ?_ | refine w_gd rfl ?_ | ((first | refine zE1 ?_ | refine w_cl rfl rfl ?_ | refine o_cl rfl ?_ | refine d_cl rfl ?_); (conv => arg 1; try simp only [go_sem, Nat.reduceEqDiff, reduceIte, Nat.reduceAdd, Nat.reduceLeDiff, Nat.reduceMul, Int.reduceEq, Int.reduceLT, Int.reduceLE, Int.reduceNeg, Int.reduceAdd, Int.reduceSub, Nat.reduceLT, Nat.reduceBEq, Nat.reduceSub, Nat.reducePow, hz', W, R, q1, m1, a1, q2, m2, a2, c4, c3, s0, hs', w2, w3, w4, hbd, n4, Option.map_none, Option.isSome_none]); first | refine zE3 ?_ | refine zE2 ?_ | refine zE4 ?_ | refine zE5 ?_ | refine zE6 ?_ | refine zE7 ?_ | refine zE8 ?_) | (refine b_s (fun hb => ?_) (fun hb => ?_) <;> ((try simp only [hn1, hn2, hn3, hn4] at hb); first | (exfalso; omega) | skip)) | (first | refine g_s (fun hb => ?_) (fun hb => ?_) | refine d_s (fun hb => ?_) (fun hb => ?_)) <;> ((try simp only [hn1, hn2] at hb); rw [hb]; try simp only [hn3, hn4] at hb)
      refine st_loop ?_
      repeat' first | refine w_op rfl rfl ?_ | refine x_p rfl ?_ | refine w_sr ?_ | refine st_nil ?_ | refine w_seq ?_ | refine st_region ?_ | refine st_block ?_ | refine w_cond ?_ | refine b_t ?_ | refine b_f ?_ | refine st_skip ?_ | refine st_exit ?_ | refine st_ret ?_ | refine st_onNormN ?_ | refine st_onNormE ?_ | refine st_onNormR ?_ | refine st_onExitN ?_ | refine st_onExitR ?_ | refine st_onExitS ?_ | refine st_onExitO (by decide) ?_ | refine g_t ?_ | refine g_f rfl ?_ | refine o_op rfl ?_ | refine w_wr ?_ | refine w_wn ?_ | refine d_c rfl ?_ | refine d_on rfl ?_ | refine d_op rfl ?_ | refine d_y ?_ | refine d_gd rfl ?_ | refine d_t ?_ | refine d_f ?_ | refine d_nil ?_ | refine w_u true ?_ | refine w_dg rfl ?_ | refine d_mid ?_ | refine d_mj ?_ | refine d_e ?_ | refine n_0 rfl ?_ | refine d_n ?_ | refine k_p rfl rfl rfl rfl (h125) ?_ | refine w_gd rfl ?_ | ((first | refine zE1 ?_ | refine w_cl rfl rfl ?_ | refine o_cl rfl ?_ | refine d_cl rfl ?_); (conv => arg 1; try simp only [go_sem, Nat.reduceEqDiff, reduceIte, Nat.reduceAdd, Nat.reduceLeDiff, Nat.reduceMul, Int.reduceEq, Int.reduceLT, Int.reduceLE, Int.reduceNeg, Int.reduceAdd, Int.reduceSub, Nat.reduceLT, Nat.reduceBEq, Nat.reduceSub, Nat.reducePow, hz', W, R, q1, m1, a1, q2, m2, a2, c4, c3, s0, hs', w2, w3, w4, hbd, n4, Option.map_none, Option.isSome_none]); first | refine zE3 ?_ | refine zE2 ?_ | refine zE4 ?_ | refine zE5 ?_ | refine zE6 ?_ | refine zE7 ?_ | refine zE8 ?_) | (refine b_s (fun hb => ?_) (fun hb => ?_) <;> ((try simp only [hn1, hn2, hn3, hn4] at hb); first | (exfalso; omega) | skip)) | (first | refine g_s (fun hb => ?_) (fun hb => ?_) | refine d_s (fun hb => ?_) (fun hb => ?_)) <;> ((try simp only [hn1, hn2] at hb); rw [hb]; try simp only [hn3, hn4] at hb)
      refine st_loop ?_
      repeat' first | refine w_op rfl rfl ?_ | refine x_p rfl ?_ | refine w_sr ?_ | refine st_nil ?_ | refine w_seq ?_ | refine st_region ?_ | refine st_block ?_ | refine w_cond ?_ | refine b_t ?_ | refine b_f ?_ | refine st_skip ?_ | refine st_exit ?_ | refine st_ret ?_ | refine st_onNormN ?_ | refine st_onNormE ?_ | refine st_onNormR ?_ | refine st_onExitN ?_ | refine st_onExitR ?_ | refine st_onExitS ?_ | refine st_onExitO (by decide) ?_ | refine g_t ?_ | refine g_f rfl ?_ | refine o_op rfl ?_ | refine w_wr ?_ | refine w_wn ?_ | refine d_c rfl ?_ | refine d_on rfl ?_ | refine d_op rfl ?_ | refine d_y ?_ | refine d_gd rfl ?_ | refine d_t ?_ | refine d_f ?_ | refine d_nil ?_ | refine w_u true ?_ | refine w_dg rfl ?_ | refine d_mid ?_ | refine d_mj ?_ | refine d_e ?_ | refine n_0 rfl ?_ | refine d_n ?_ | refine k_p rfl rfl rfl rfl (h125) ?_ | refine w_gd rfl ?_ | ((first | refine zE1 ?_ | refine w_cl rfl rfl ?_ | refine o_cl rfl ?_ | refine d_cl rfl ?_); (conv => arg 1; try simp only [go_sem, Nat.reduceEqDiff, reduceIte, Nat.reduceAdd, Nat.reduceLeDiff, Nat.reduceMul, Int.reduceEq, Int.reduceLT, Int.reduceLE, Int.reduceNeg, Int.reduceAdd, Int.reduceSub, Nat.reduceLT, Nat.reduceBEq, Nat.reduceSub, Nat.reducePow, hz', W, R, q1, m1, a1, q2, m2, a2, c4, c3, s0, hs', w2, w3, w4, hbd, n4, Option.map_none, Option.isSome_none]); first | refine zE3 ?_ | refine zE2 ?_ | refine zE4 ?_ | refine zE5 ?_ | refine zE6 ?_ | refine zE7 ?_ | refine zE8 ?_) | (refine b_s (fun hb => ?_) (fun hb => ?_) <;> ((try simp only [hn1, hn2, hn3, hn4] at hb); first | (exfalso; omega) | skip)) | (first | refine g_s (fun hb => ?_) (fun hb => ?_) | refine d_s (fun hb => ?_) (fun hb => ?_)) <;> ((try simp only [hn1, hn2] at hb); rw [hb]; try simp only [hn3, hn4] at hb)
      all_goals simp only [one1, frz_t, mapF, frz_s, Option.map_some, List.append_nil, finN, hm, hv]
      all_goals (rw [if_neg (fun h => absurd h.1 (by decide))]; rfl)
    | true =>
      rw [hm] at h125
      have hle := ((mayN_iff v).1 hm).1
      have h126 := pc126 G v hle
      have hby := bytesOf_b8s (octN_lt v hle)
      have hbl : (b8s (octN v)).length = (octN v).length := by simp [b8s]
      have hcmp := hcmp hm
      refine Pc_of (Gf_enter (C := Cf G) Tryz.func124 rfl ok124 (Nat.le_of_ble_eq_true rfl) ?_)
      simp only [Tryz.f124, Option.getD_some]
      repeat' first | refine w_op rfl rfl ?_ | refine x_p rfl ?_ | refine w_sr ?_ | refine st_nil ?_ | refine w_seq ?_ | refine st_region ?_ | refine st_block ?_ | refine w_cond ?_ | refine b_t ?_ | refine b_f ?_ | refine st_skip ?_ | refine st_exit ?_ | refine st_ret ?_ | refine st_onNormN ?_ | refine st_onNormE ?_ | refine st_onNormR ?_ | refine st_onExitN ?_ | refine st_onExitR ?_ | refine st_onExitS ?_ | refine st_onExitO (by decide) ?_ | refine g_t ?_ | refine g_f rfl ?_ | refine o_op rfl ?_ | refine w_wr ?_ | refine w_wn ?_ | refine d_c rfl ?_ | refine d_on rfl ?_ | refine d_op rfl ?_ | refine d_y ?_ | refine d_gd rfl ?_ | refine d_t ?_ | refine d_f ?_ | refine d_nil ?_ | refine w_u true ?_ | refine w_dg rfl ?_ | refine d_mid ?_ | refine d_mj ?_ | refine d_e ?_ | refine w_gd rfl ?_ | ((first | refine zE1 ?_); (conv => arg 1; try simp only [go_sem, Nat.reduceEqDiff, reduceIte, Nat.reduceAdd, Nat.reduceLeDiff, Nat.reduceMul, Int.reduceEq, Int.reduceLT, Int.reduceLE, Int.reduceNeg, Int.reduceAdd, Int.reduceSub, Nat.reduceLT, Nat.reduceBEq, Nat.reduceSub, Nat.reducePow, hz', q0, W, R, c4, c3, s0, hs', w2, w3, w4]); first | refine zE3 ?_ | refine zE2 ?_ | refine zE4 ?_ | refine zE5 ?_ | refine zE6 ?_ | refine zE7 ?_ | refine zE8 ?_) | (refine b_s (fun hb => ?_) (fun hb => ?_) <;> ((try simp only [hn1, hn2, hn3, hn4] at hb); first | (exfalso; omega) | skip)) | (first | refine g_s (fun hb => ?_) (fun hb => ?_) | refine d_s (fun hb => ?_) (fun hb => ?_)) <;> ((try simp only [hn1, hn2] at hb); rw [hb]; try simp only [hn3, hn4] at hb)
      refine st_loop ?_
      repeat' first | refine w_op rfl rfl ?_ | refine x_p rfl ?_ | refine w_sr ?_ | refine st_nil ?_ | refine w_seq ?_ | refine st_region ?_ | refine st_block ?_ | refine w_cond ?_ | refine b_t ?_ | refine b_f ?_ | refine st_skip ?_ | refine st_exit ?_ | refine st_ret ?_ | refine st_onNormN ?_ | refine st_onNormE ?_ | refine st_onNormR ?_ | refine st_onExitN ?_ | refine st_onExitR ?_ | refine st_onExitS ?_ | refine st_onExitO (by decide) ?_ | refine g_t ?_ | refine g_f rfl ?_ | refine o_op rfl ?_ | refine w_wr ?_ | refine w_wn ?_ | refine d_c rfl ?_ | refine d_on rfl ?_ | refine d_op rfl ?_ | refine d_y ?_ | refine d_gd rfl ?_ | refine d_t ?_ | refine d_f ?_ | refine d_nil ?_ | refine w_u true ?_ | refine w_dg rfl ?_ | refine d_mid ?_ | refine d_mj ?_ | refine d_e ?_ | refine n_0 rfl ?_ | refine d_n ?_ | refine k_p rfl rfl rfl rfl (h125) ?_ | refine k_p rfl rfl rfl rfl (h126) ?_ | refine w_gd rfl ?_ | ((first | refine zE1 ?_ | refine w_cl rfl rfl ?_ | refine o_cl rfl ?_ | refine d_cl rfl ?_); (conv => arg 1; try simp only [go_sem, Nat.reduceEqDiff, reduceIte, Nat.reduceAdd, Nat.reduceLeDiff, Nat.reduceMul, Int.reduceEq, Int.reduceLT, Int.reduceLE, Int.reduceNeg, Int.reduceAdd, Int.reduceSub, Nat.reduceLT, Nat.reduceBEq, Nat.reduceSub, Nat.reducePow, hz', W, R, q1, m1, a1, q2, m2, a2, c4, c3, s0, hs', w2, w3, w4, readSl, hbl, hby, hcmp, hbd, n4, Option.map_none, Option.isSome_none]); first | refine zE3 ?_ | refine zE2 ?_ | refine zE4 ?_ | refine zE5 ?_ | refine zE6 ?_ | refine zE7 ?_ | refine zE8 ?_) | (refine b_s (fun hb => ?_) (fun hb => ?_) <;> ((try simp only [hn1, hn2, hn3, hn4] at hb); first | (exfalso; omega) | skip)) | (first | refine g_s (fun hb => ?_) (fun hb => ?_) | refine d_s (fun hb => ?_) (fun hb => ?_)) <;> ((try simp only [hn1, hn2] at hb); rw [hb]; try simp only [hn3, hn4] at hb)
      refine st_loop ?_
      repeat' first | refine w_op rfl rfl ?_ | refine x_p rfl ?_ | refine w_sr ?_ | refine st_nil ?_ | refine w_seq ?_ | refine st_region ?_ | refine st_block ?_ | refine w_cond ?_ | refine b_t ?_ | refine b_f ?_ | refine st_skip ?_ | refine st_exit ?_ | refine st_ret ?_ | refine st_onNormN ?_ | refine st_onNormE ?_ | refine st_onNormR ?_ | refine st_onExitN ?_ | refine st_onExitR ?_ | refine st_onExitS ?_ | refine st_onExitO (by decide) ?_ | refine g_t ?_ | refine g_f rfl ?_ | refine o_op rfl ?_ | refine w_wr ?_ | refine w_wn ?_ | refine d_c rfl ?_ | refine d_on rfl ?_ | refine d_op rfl ?_ | refine d_y ?_ | refine d_gd rfl ?_ | refine d_t ?_ | refine d_f ?_ | refine d_nil ?_ | refine w_u true ?_ | refine w_dg rfl ?_ | refine d_mid ?_ | refine d_mj ?_ | refine d_e ?_ | refine n_0 rfl ?_ | refine d_n ?_ | refine k_p rfl rfl rfl rfl (h125) ?_ | refine k_p rfl rfl rfl rfl (h126) ?_ | refine w_gd rfl ?_ | ((first | refine zE1 ?_ | refine w_cl rfl rfl ?_ | refine o_cl rfl ?_ | refine d_cl rfl ?_); (conv => arg 1; try simp only [go_sem, Nat.reduceEqDiff, reduceIte, Nat.reduceAdd, Nat.reduceLeDiff, Nat.reduceMul, Int.reduceEq, Int.reduceLT, Int.reduceLE, Int.reduceNeg, Int.reduceAdd, Int.reduceSub, Nat.reduceLT, Nat.reduceBEq, Nat.reduceSub, Nat.reducePow, hz', W, R, q1, m1, a1, q2, m2, a2, c4, c3, s0, hs', w2, w3, w4, readSl, hbl, hby, hcmp, hbd, n4, Option.map_none, Option.isSome_none]); first | refine zE3 ?_ | refine zE2 ?_ | refine zE4 ?_ | refine zE5 ?_ | refine zE6 ?_ | refine zE7 ?_ | refine zE8 ?_) | (refine b_s (fun hb => ?_) (fun hb => ?_) <;> ((try simp only [hn1, hn2, hn3, hn4] at hb); first | (exfalso; omega) | skip)) | (first | refine g_s (fun hb => ?_) (fun hb => ?_) | refine d_s (fun hb => ?_) (fun hb => ?_)) <;> ((try simp only [hn1, hn2] at hb); rw [hb]; try simp only [hn3, hn4] at hb)
      refine st_loop ?_
      repeat' first | refine w_op rfl rfl ?_ | refine x_p rfl ?_ | refine w_sr ?_ | refine st_nil ?_ | refine w_seq ?_ | refine st_region ?_ | refine st_block ?_ | refine w_cond ?_ | refine b_t ?_ | refine b_f ?_ | refine st_skip ?_ | refine st_exit ?_ | refine st_ret ?_ | refine st_onNormN ?_ | refine st_onNormE ?_ | refine st_onNormR ?_ | refine st_onExitN ?_ | refine st_onExitR ?_ | refine st_onExitS ?_ | refine st_onExitO (by decide) ?_ | refine g_t ?_ | refine g_f rfl ?_ | refine o_op rfl ?_ | refine w_wr ?_ | refine w_wn ?_ | refine d_c rfl ?_ | refine d_on rfl ?_ | refine d_op rfl ?_ | refine d_y ?_ | refine d_gd rfl ?_ | refine d_t ?_ | refine d_f ?_ | refine d_nil ?_ | refine w_u true ?_ | refine w_dg rfl ?_ | refine d_mid ?_ | refine d_mj ?_ | refine d_e ?_ | refine n_0 rfl ?_ | refine d_n ?_ | refine k_p rfl rfl rfl rfl (h125) ?_ | refine k_p rfl rfl rfl rfl (h126) ?_ | refine w_gd rfl ?_ | ((first | refine zE1 ?_ | refine w_cl rfl rfl ?_ | refine o_cl rfl ?_ | refine d_cl rfl ?_); (conv => arg 1; try simp only [go_sem, Nat.reduceEqDiff, reduceIte, Nat.reduceAdd, Nat.reduceLeDiff, Nat.reduceMul, Int.reduceEq, Int.reduceLT, Int.reduceLE, Int.reduceNeg, Int.reduceAdd, Int.reduceSub, Nat.reduceLT, Nat.reduceBEq, Nat.reduceSub, Nat.reducePow, hz', W, R, q1, m1, a1, q2, m2, a2, c4, c3, s0, hs', w2, w3, w4, readSl, hbl, hby, hcmp, hbd, n4, Option.map_none, Option.isSome_none]); first | refine zE3 ?_ | refine zE2 ?_ | refine zE4 ?_ | refine zE5 ?_ | refine zE6 ?_ | refine zE7 ?_ | refine zE8 ?_) | (refine b_s (fun hb => ?_) (fun hb => ?_) <;> ((try simp only [hn1, hn2, hn3, hn4] at hb); first | (exfalso; omega) | skip)) | (first | refine g_s (fun hb => ?_) (fun hb => ?_) | refine d_s (fun hb => ?_) (fun hb => ?_)) <;> ((try simp only [hn1, hn2] at hb); rw [hb]; try simp only [hn3, hn4] at hb)
      all_goals simp only [one1, frz_t, mapF, frz_s, Option.map_some, List.append_nil, finN, hm, hv]
      all_goals first | (rw [if_pos ⟨trivial, hb⟩]; rfl) | (rw [if_neg (fun h => hb h.2)]; rfl)
end Go.Proofs.Bv
/-
  The reference's First, of 4 octets.
  Conditions: none.
-/
namespace Go.Proofs.Bv
open Go
set_option maxHeartbeats 8000000 in
set_option maxRecDepth 100000 in
theorem pc124_4 (G : Nat → Option (List AV)) (s : ByteArray) (c4 : 240 ≤ bAt s 0) (hz : ¬ s.size = 0) (hn : s.size ≤ 140737488355328) : Pc (Cf G) 124 [.sc (.string s)] (.tup [.sc (.int .i64 (firstS s).1), .sc (.int .i64 (firstS s).2)]) := by
  unfold firstS firstN
  have hz' : ¬ (s.size : Int) = 0 := by omega
  rw [if_neg hz]
  have B : ∀ i, bAt s i < 256 := bAt_lt s
  have Q : ∀ i, i < s.size → s.data[i]? = some (s.get! i) := fun i hi => by
    have h' : i < s.data.size := hi
    rw [Array.getElem?_eq_getElem h']
    simp only [ByteArray.get!]
    rw [getElem!_pos s.data i h']
  have W : ∀ i, IntKind.i64.wrap (((s.get! i).toNat : Nat) : Int) = ((bAt s i : Nat) : Int) := fun i => by
    have := B i
    unfold bAt at this ⊢
    rw [i64 (by omega) (by omega)]
  have R : ∀ i, ((bAt s i : Nat) : Int).tmod 64 = ((bAt s i % 64 : Nat) : Int) := fun i => by rw [Int.tmod_eq_emod_of_nonneg (by omega)]; omega
  have M : ∀ a : Nat, a ≤ 4294967296 → IntKind.i64.wrap ((a : Int) * 64) = ((a * 64 : Nat) : Int) := fun a ha => by rw [i64 (by omega) (by omega)]; omega
  have A : ∀ a i : Nat, a ≤ 4294967296000 → IntKind.i64.wrap ((a : Int) + ((bAt s i % 64 : Nat) : Int)) = ((a + bAt s i % 64 : Nat) : Int) := fun a i ha => by rw [i64 (by omega) (by omega)]; omega
  have w2 : IntKind.i64.wrap 2 = 2 := i64 (by omega) (by omega)
  have w3 : IntKind.i64.wrap 3 = 3 := i64 (by omega) (by omega)
  have w4 : IntKind.i64.wrap 4 = 4 := i64 (by omega) (by omega)
  have n4 : ∀ k, asNat (.sc (.int k 4)) = some 4 := fun k => rfl
  have q0 := Q 0 (by omega)
  have b0 := B 0
  have b1 := B 1
  have b2 := B 2
  have b3 := B 3
  rw [if_pos c4]
  have c4 : (240 : Int) ≤ ((bAt s 0 : Nat) : Int) := by omega
  have s0 : IntKind.i64.wrap (((bAt s 0 : Nat) : Int) - 240) = ((bAt s 0 - 240 : Nat) : Int) := by rw [i64 (by omega) (by omega)]; omega
  by_cases hs : s.size < 4
  · have hs' : (s.size : Int) < 4 := by omega
    rw [if_pos hs]
    refine Pc_of (Gf_enter (C := Cf G) Tryz.func124 rfl ok124 (Nat.le_of_ble_eq_true rfl) ?_)
    simp only [Tryz.f124, Option.getD_some]
    repeat' first | refine w_op rfl rfl ?_ | refine x_p rfl ?_ | refine w_sr ?_ | refine st_nil ?_ | refine w_seq ?_ | refine st_region ?_ | refine st_block ?_ | refine w_cond ?_ | refine b_t ?_ | refine b_f ?_ | refine st_skip ?_ | refine st_exit ?_ | refine st_ret ?_ | refine st_onNormN ?_ | refine st_onNormE ?_ | refine st_onNormR ?_ | refine st_onExitN ?_ | refine st_onExitR ?_ | refine st_onExitS ?_ | refine st_onExitO (by decide) ?_ | refine g_t ?_ | refine g_f rfl ?_ | refine o_op rfl ?_ | refine w_wr ?_ | refine w_wn ?_ | refine d_c rfl ?_ | refine d_on rfl ?_ | refine d_op rfl ?_ | refine d_y ?_ | refine d_gd rfl ?_ | refine d_t ?_ | refine d_f ?_ | refine d_nil ?_ | refine w_u true ?_ | refine w_dg rfl ?_ | refine d_mid ?_ | refine d_mj ?_ | refine d_e ?_ | refine w_gd rfl ?_ | ((first | refine zE1 ?_); (conv => arg 1; try simp only [go_sem, Nat.reduceEqDiff, reduceIte, Nat.reduceAdd, Nat.reduceLeDiff, Nat.reduceMul, Int.reduceEq, Int.reduceLT, Int.reduceLE, Int.reduceNeg, Int.reduceAdd, Int.reduceSub, Nat.reduceLT, Nat.reduceBEq, Nat.reduceSub, Nat.reducePow, hz', q0, W, c4, s0, hs']); first | refine zE3 ?_ | refine zE2 ?_ | refine zE4 ?_ | refine zE5 ?_ | refine zE6 ?_ | refine zE7 ?_ | refine zE8 ?_) | (refine b_s (fun hb => ?_) (fun hb => ?_) <;> ((try simp only [hn1, hn2, hn3, hn4] at hb); first | (exfalso; omega) | skip)) | (first | refine g_s (fun hb => ?_) (fun hb => ?_) | refine d_s (fun hb => ?_) (fun hb => ?_)) <;> ((try simp only [hn1, hn2] at hb); rw [hb]; try simp only [hn3, hn4] at hb)
    rfl
  · have hs' : ¬ (s.size : Int) < 4 := by omega
    rw [if_neg hs]
    have q1 := Q 1 (by omega)
    have m1 := M (bAt s 0 - 240) (by omega)
    have a1 := A ((bAt s 0 - 240) * 64) 1 (by omega)
    have q2 := Q 2 (by omega)
    have m2 := M ((bAt s 0 - 240) * 64 + bAt s 1 % 64) (by omega)
    have a2 := A (((bAt s 0 - 240) * 64 + bAt s 1 % 64) * 64) 2 (by omega)
    have q3 := Q 3 (by omega)
    have m3 := M (((bAt s 0 - 240) * 64 + bAt s 1 % 64) * 64 + bAt s 2 % 64) (by omega)
    have a3 := A ((((bAt s 0 - 240) * 64 + bAt s 1 % 64) * 64 + bAt s 2 % 64) * 64) 3 (by omega)
    have hbd : bnds s.size none (some (.sc (.int .i64 4))) = some (0, 4) := by
      simp only [bnds, asNat]
      rw [if_pos (by omega)]
      simp
      omega
    have hcmp : mayN ((((bAt s 0 - 240) * 64 + bAt s 1 % 64) * 64 + bAt s 2 % 64) * 64 + bAt s 3 % 64) = true → ((⟨((octN ((((bAt s 0 - 240) * 64 + bAt s 1 % 64) * 64 + bAt s 2 % 64) * 64 + bAt s 3 % 64)).map UInt8.ofNat).toArray⟩ : ByteArray).toList == (s.extract 0 4).toList) = decide (octN ((((bAt s 0 - 240) * 64 + bAt s 1 % 64) * 64 + bAt s 2 % 64) * 64 + bAt s 3 % 64) = [bAt s 0, bAt s 1, bAt s 2, bAt s 3]) := fun hm => cmp_bytes s _ (octN_lt _ ((mayN_iff _).1 hm).1) 4 (by omega)
    generalize hv : ((((bAt s 0 - 240) * 64 + bAt s 1 % 64) * 64 + bAt s 2 % 64) * 64 + bAt s 3 % 64) = v at *
    have h125 := pc125 G v
    cases hm : mayN v with
    | false =>
      rw [hm] at h125
      refine Pc_of (Gf_enter (C := Cf G) Tryz.func124 rfl ok124 (Nat.le_of_ble_eq_true rfl) ?_)
      simp only [Tryz.f124, Option.getD_some]
      repeat' first | refine w_op rfl rfl ?_ | refine x_p rfl ?_ | refine w_sr ?_ | refine st_nil ?_ | refine w_seq ?_ | refine st_region ?_ | refine st_block ?_ | refine w_cond ?_ | refine b_t ?_ | refine b_f ?_ | refine st_skip ?_ | refine st_exit ?_ | refine st_ret ?_ | refine st_onNormN ?_ | refine st_onNormE ?_ | refine st_onNormR ?_ | refine st_onExitN ?_ | refine st_onExitR ?_ | refine st_onExitS ?_ | refine st_onExitO (by decide) ?_ | refine g_t ?_ | refine g_f rfl ?_ | refine o_op rfl ?_ | refine w_wr ?_ | refine w_wn ?_ | refine d_c rfl ?_ | refine d_on rfl ?_ | refine d_op rfl ?_ | refine d_y ?_ | refine d_gd rfl ?_ | refine d_t ?_ | refine d_f ?_ | refine d_nil ?_ | refine w_u true ?_ | refine w_dg rfl ?_ | refine d_mid ?_ | refine d_mj ?_ | refine d_e ?_ | refine w_gd rfl ?_ | ((first | refine zE1 ?_); (conv => arg 1; try simp only [go_sem, Nat.reduceEqDiff, reduceIte, Nat.reduceAdd, Nat.reduceLeDiff, Nat.reduceMul, Int.reduceEq, Int.reduceLT, Int.reduceLE, Int.reduceNeg, Int.reduceAdd, Int.reduceSub, Nat.reduceLT, Nat.reduceBEq, Nat.reduceSub, Nat.reducePow, hz', q0, W, R, c4, s0, hs', w2, w3, w4]); first | refine zE3 ?_ | refine zE2 ?_ | refine zE4 ?_ | refine zE5 ?_ | refine zE6 ?_ | refine zE7 ?_ | refine zE8 ?_) | (refine b_s (fun hb => ?_) (fun hb => ?_) <;> ((try simp only [hn1, hn2, hn3, hn4] at hb); first | (exfalso; omega) | skip)) | (first | refine g_s (fun hb => ?_) (fun hb => ?_) | refine d_s (fun hb => ?_) (fun hb => ?_)) <;> ((try simp only [hn1, hn2] at hb); rw [hb]; try simp only [hn3, hn4] at hb)
      refine st_loop ?_
      repeat' first | refine w_op rfl rfl ?_ | refine x_p rfl ?_ | refine w_sr ?_ | refine st_nil ?_ | refine w_seq ?_ | refine st_region ?_ | refine st_block ?_ | refine w_cond ?_ | refine b_t ?_ | refine b_f ?_ | refine st_skip ?_ | refine st_exit ?_ | refine st_ret ?_ | refine st_onNormN ?_ | refine st_onNormE ?_ | refine st_onNormR ?_ | refine st_onExitN ?_ | refine st_onExitR ?_ | refine st_onExitS ?_ | refine st_onExitO (by decide) ?_ | refine g_t ?_ | refine g_f rfl ?_ | refine o_op rfl ?_ | refine w_wr ?_ | refine w_wn ?_ | refine d_c rfl ?_ | refine d_on rfl ?_ | refine d_op rfl ?_ | refine d_y ?_ | refine d_gd rfl ?_ | refine d_t ?_ | refine d_f ?_ | refine d_nil ?_ | refine w_u true ?_ | refine w_dg rfl ?_ | refine d_mid ?_ | refine d_mj ?_ | refine d_e ?_ | refine n_0 rfl ?_ | refine d_n ?_ | refine k_p rfl rfl rfl rfl (h125) ?_ | refine w_gd rfl ?_ | ((first | refine zE1 ?_ | refine w_cl rfl rfl ?_ | refine o_cl rfl ?_ | refine d_cl rfl ?_); (conv => arg 1; try simp only [go_sem, Nat.reduceEqDiff, reduceIte, Nat.reduceAdd, Nat.reduceLeDiff, Nat.reduceMul, Int.reduceEq, Int.reduceLT, Int.reduceLE, Int.reduceNeg, Int.reduceAdd, Int.reduceSub, Nat.reduceLT, Nat.reduceBEq, Nat.reduceSub, Nat.reducePow, hz', W, R, q1, m1, a1, q2, m2, a2, q3, m3, a3, c4, s0, hs', w2, w3, w4, hbd, n4, Option.map_none, Option.isSome_none]); first | refine zE3 ?_ | refine zE2 ?_ | refine zE4 ?_ | refine zE5 ?_ | refine zE6 ?_ | refine zE7 ?_ | refine zE8 ?_) | (refine b_s (fun hb => ?_) (fun hb => ?_) <;> ((try simp only [hn1, hn2, hn3, hn4] at hb); first | (exfalso; omega) | skip)) | (first | refine g_s (fun hb => ?_) (fun hb => ?_) | refine d_s (fun hb => ?_) (fun hb => ?_)) <;> ((try simp only [hn1, hn2] at hb); rw [hb]; try simp only [hn3, hn4] at hb)
      refine st_loop ?_
      repeat' first | refine w_op rfl rfl ?_ | refine x_p rfl ?_ | refine w_sr ?_ | refine st_nil ?_ | refine w_seq ?_ | refine st_region ?_ | refine st_block ?_ | refine w_cond ?_ | refine b_t ?_ | refine b_f ?_ | refine st_skip ?_ | refine st_exit ?_ | refine st_ret ?_ | refine st_onNormN ?_ | refine st_onNormE ?_ | refine st_onNormR ?_ | refine st_onExitN ?_ | refine st_onExitR ?_ | refine st_onExitS ?_ | refine st_onExitO (by decide) ?_ | refine g_t ?_ | refine g_f rfl ?_ | refine o_op rfl ?_ | refine w_wr ?_ | refine w_wn ?_ | refine d_c rfl ?_ | refine d_on rfl ?_ | refine d_op rfl ?_ | refine d_y ?_ | refine d_gd rfl ?_ | refine d_t ?_ | refine d_f ?_ | refine d_nil ?_ | refine w_u true ?_ | refine w_dg rfl ?_ | refine d_mid ?_ | refine d_mj ?_ | refine d_e ?_ | refine n_0 rfl ?_ | refine d_n ?_ | refine k_p rfl rfl rfl rfl (h125) ?_ | refine w_gd rfl ?_ | ((first | refine zE1 ?_ | refine w_cl rfl rfl ?_ | refine o_cl rfl ?_ | refine d_cl rfl ?_); (conv => arg 1; try simp only [go_sem, Nat.reduceEqDiff, reduceIte, Nat.reduceAdd, Nat.reduceLeDiff, Nat.reduceMul, Int.reduceEq, Int.reduceLT, Int.reduceLE, Int.reduceNeg, Int.reduceAdd, Int.reduceSub, Nat.reduceLT, Nat.reduceBEq, Nat.reduceSub, Nat.reducePow, hz', W, R, q1, m1, a1, q2, m2, a2, q3, m3, a3, c4, s0, hs', w2, w3, w4, hbd, n4, Option.map_none, Option.isSome_none]); first | refine zE3 ?_ | refine zE2 ?_ | refine zE4 ?_ | refine zE5 ?_ | refine zE6 ?_ | refine zE7 ?_ | refine zE8 ?_) | (refine b_s (fun hb => ?_) (fun hb => ?_) <;> ((try simp only [hn1, hn2, hn3, hn4] at hb); first | (exfalso; omega) | skip)) | (first | refine g_s (fun hb => ?_) (fun hb => ?_) | refine d_s (fun hb => ?_) (fun hb => ?_)) <;> ((try simp only [hn1, hn2] at hb); rw [hb]; try simp only [hn3, hn4] at hb)
      refine st_loop ?_
      repeat' first | refine w_op rfl rfl ?_ | refine x_p rfl ?_ | refine w_sr ?_ | refine st_nil ?_ | refine w_seq ?_ | refine st_region ?_ | refine st_block ?_ | refine w_cond ?_ | refine b_t ?_ | refine b_f ?_ | refine st_skip ?_ | refine st_exit ?_ | refine st_ret ?_ | refine st_onNormN ?_ | refine st_onNormE ?_ | refine st_onNormR ?_ | refine st_onExitN ?_ | refine st_onExitR ?_ | refine st_onExitS ?_ | refine st_onExitO (by decide) ?_ | refine g_t ?_ | refine g_f rfl ?_ | refine o_op rfl ?_ | refine w_wr ?_ | refine w_wn ?_ | refine d_c rfl ?_ | refine d_on rfl ?_ | refine d_op rfl ?_ | refine d_y ?_ | refine d_gd rfl ?_ | refine d_t ?_ | refine d_f ?_ | refine d_nil ?_ | refine w_u true ?_ | refine w_dg rfl ?_ | refine d_mid ?_ | refine d_mj ?_ | refine d_e ?_ | refine n_0 rfl ?_ | refine d_n ?_ | refine k_p rfl rfl rfl rfl (h125) ?_ | refine w_gd rfl ?_ | ((first | refine zE1 ?_ | refine w_cl rfl rfl ?_ | refine o_cl rfl ?_ | refine d_cl rfl ?_); (conv => arg 1; try simp only [go_sem, Nat.reduceEqDiff, reduceIte, Nat.reduceAdd, Nat.reduceLeDiff, Nat.reduceMul, Int.reduceEq, Int.reduceLT, Int.reduceLE, Int.reduceNeg, Int.reduceAdd, Int.reduceSub, Nat.reduceLT, Nat.reduceBEq, Nat.reduceSub, Nat.reducePow, hz', W, R, q1, m1, a1, q2, m2, a2, q3, m3, a3, c4, s0, hs', w2, w3, w4, hbd, n4, Option.map_none, Option.isSome_none]); first | refine zE3 ?_ | refine zE2 ?_ | refine zE4 ?_ | refine zE5 ?_ | refine zE6 ?_ | refine zE7 ?_ | refine zE8 ?_) | (refine b_s (fun hb => ?_) (fun hb => ?_) <;> ((try simp only [hn1, hn2, hn3, hn4] at hb); first | (exfalso; omega) | skip)) | (first | refine g_s (fun hb => ?_) (fun hb => ?_) | refine d_s (fun hb => ?_) (fun hb => ?_)) <;> ((try simp only [hn1, hn2] at hb); rw [hb]; try simp only [hn3, hn4] at hb)
      refine st_loop ?_
      repeat' first | refine w_op rfl rfl ?_ | refine x_p rfl ?_ | refine w_sr ?_ | refine st_nil ?_ | refine w_seq ?_ | refine st_region ?_ | refine st_block ?_ | refine w_cond ?_ | refine b_t ?_ | refine b_f ?_ | refine st_skip ?_ | refine st_exit ?_ | refine st_ret ?_ | refine st_onNormN ?_ | refine st_onNormE ?_ | refine st_onNormR ?_ | refine st_onExitN ?_ | refine st_onExitR ?_ | refine st_onExitS ?_ | refine st_onExitO (by decide) ?_ | refine g_t ?_ | refine g_f rfl ?_ | refine o_op rfl ?_ | refine w_wr ?_ | refine w_wn ?_ | refine d_c rfl ?_ | refine d_on rfl ?_ | refine d_op rfl ?_ | refine d_y ?_ | refine d_gd rfl ?_ | refine d_t ?_ | refine d_f ?_ | refine d_nil ?_ | refine w_u true ?_ | refine w_dg rfl ?_ | refine d_mid ?_ | refine d_mj ?_ | refine d_e ?_ | refine n_0 rfl ?_ | refine d_n ?_ | refine k_p rfl rfl rfl rfl (h125) ?_ | refine w_gd rfl ?_ | ((first | refine zE1 ?_ | refine w_cl rfl rfl ?_ | refine o_cl rfl ?_ | refine d_cl rfl ?_); (conv => arg 1; try simp only [go_sem, Nat.reduceEqDiff, reduceIte, Nat.reduceAdd, Nat.reduceLeDiff, Nat.reduceMul, Int.reduceEq, Int.reduceLT, Int.reduceLE, Int.reduceNeg, Int.reduceAdd, Int.reduceSub, Nat.reduceLT, Nat.reduceBEq, Nat.reduceSub, Nat.reducePow, hz', W, R, q1, m1, a1, q2, m2, a2, q3, m3, a3, c4, s0, hs', w2, w3, w4, hbd, n4, Option.map_none, Option.isSome_none]); first | refine zE3 ?_ | refine zE2 ?_ | refine zE4 ?_ | refine zE5 ?_ | refine zE6 ?_ | refine zE7 ?_ | refine zE8 ?_) | (refine b_s (fun hb => ?_) (fun hb => ?_) <;> ((try simp only [hn1, hn2, hn3, hn4] at hb); first | (exfalso; omega) | skip)) | (first | refine g_s (fun hb => ?_) (fun hb => ?_) | refine d_s (fun hb => ?_) (fun hb => ?_)) <;> ((try simp only [hn1, hn2] at hb); rw [hb]; try simp only [hn3, hn4] at hb)
      all_goals simp only [one1, frz_t, mapF, frz_s, Option.map_some, List.append_nil, finN, hm, hv]
      all_goals (rw [if_neg (fun h => absurd h.1 (by decide))]; rfl)
    | true =>
      rw [hm] at h125
      have hle := ((mayN_iff v).1 hm).1
      have h126 := pc126 G v hle
      have hby := bytesOf_b8s (octN_lt v hle)
      have hbl : (b8s (octN v)).length = (octN v).length := by simp [b8s]
      have hcmp := hcmp hm
      refine Pc_of (Gf_enter (C := Cf G) Tryz.func124 rfl ok124 (Nat.le_of_ble_eq_true rfl) ?_)
      simp only [Tryz.f124, Option.getD_some]
      repeat' first | refine w_op rfl rfl ?_ | refine x_p rfl ?_ | refine w_sr ?_ | refine st_nil ?_ | refine w_seq ?_ | refine st_region ?_ | refine st_block ?_ | refine w_cond ?_ | refine b_t ?_ | refine b_f ?_ | refine st_skip ?_ | refine st_exit ?_ | refine st_ret ?_ | refine st_onNormN ?_ | refine st_onNormE ?_ | refine st_onNormR ?_ | refine st_onExitN ?_ | refine st_onExitR ?_ | refine st_onExitS ?_ | refine st_onExitO (by decide) ?_ | refine g_t ?_ | refine g_f rfl ?_ | refine o_op rfl ?_ | refine w_wr ?_ | refine w_wn ?_ | refine d_c rfl ?_ | refine d_on rfl ?_ | refine d_op rfl ?_ | refine d_y ?_ | refine d_gd rfl ?_ | refine d_t ?_ | refine d_f ?_ | refine d_nil ?_ | refine w_u true ?_ | refine w_dg rfl ?_ | refine d_mid ?_ | refine d_mj ?_ | refine d_e ?_ | refine w_gd rfl ?_ | ((first | refine zE1 ?_); (conv => arg 1; try simp only [go_sem, Nat.reduceEqDiff, reduceIte, Nat.reduceAdd, Nat.reduceLeDiff, Nat.reduceMul, Int.reduceEq, Int.reduceLT, Int.reduceLE, Int.reduceNeg, Int.reduceAdd, Int.reduceSub, Nat.reduceLT, Nat.reduceBEq, Nat.reduceSub, Nat.reducePow, hz', q0, W, R, c4, s0, hs', w2, w3, w4]); first | refine zE3 ?_ | refine zE2 ?_ | refine zE4 ?_ | refine zE5 ?_ | refine zE6 ?_ | refine zE7 ?_ | refine zE8 ?_) | (refine b_s (fun hb => ?_) (fun hb => ?_) <;> ((try simp only [hn1, hn2, hn3, hn4] at hb); first | (exfalso; omega) | skip)) | (first | refine g_s (fun hb => ?_) (fun hb => ?_) | refine d_s (fun hb => ?_) (fun hb => ?_)) <;> ((try simp only [hn1, hn2] at hb); rw [hb]; try simp only [hn3, hn4] at hb)
      refine st_loop ?_
      repeat' first | refine w_op rfl rfl ?_ | refine x_p rfl ?_ | refine w_sr ?_ | refine st_nil ?_ | refine w_seq ?_ | refine st_region ?_ | refine st_block ?_ | refine w_cond ?_ | refine b_t ?_ | refine b_f ?_ | refine st_skip ?_ | refine st_exit ?_ | refine st_ret ?_ | refine st_onNormN ?_ | refine st_onNormE ?_ | refine st_onNormR ?_ | refine st_onExitN ?_ | refine st_onExitR ?_ | refine st_onExitS ?_ | refine st_onExitO (by decide) ?_ | refine g_t ?_ | refine g_f rfl ?_ | refine o_op rfl ?_ | refine w_wr ?_ | refine w_wn ?_ | refine d_c rfl ?_ | refine d_on rfl ?_ | refine d_op rfl ?_ | refine d_y ?_ | refine d_gd rfl ?_ | refine d_t ?_ | refine d_f ?_ | refine d_nil ?_ | refine w_u true ?_ | refine w_dg rfl ?_ | refine d_mid ?_ | refine d_mj ?_ | refine d_e ?_ | refine n_0 rfl ?_ | refine d_n ?_ | refine k_p rfl rfl rfl rfl (h125) ?_ | refine k_p rfl rfl rfl rfl (h126) ?_ | refine w_gd rfl ?_ | ((first | refine zE1 ?_ | refine w_cl rfl rfl ?_ | refine o_cl rfl ?_ | refine d_cl rfl ?_); (conv => arg 1; try simp only [go_sem, Nat.reduceEqDiff, reduceIte, Nat.reduceAdd, Nat.reduceLeDiff, Nat.reduceMul, Int.reduceEq, Int.reduceLT, Int.reduceLE, Int.reduceNeg, Int.reduceAdd, Int.reduceSub, Nat.reduceLT, Nat.reduceBEq, Nat.reduceSub, Nat.reducePow, hz', W, R, q1, m1, a1, q2, m2, a2, q3, m3, a3, c4, s0, hs', w2, w3, w4, readSl, hbl, hby, hcmp, hbd, n4, Option.map_none, Option.isSome_none]); first | refine zE3 ?_ | refine zE2 ?_ | refine zE4 ?_ | refine zE5 ?_ | refine zE6 ?_ | refine zE7 ?_ | refine zE8 ?_) | (refine b_s (fun hb => ?_) (fun hb => ?_) <;> ((try simp only [hn1, hn2, hn3, hn4] at hb); first | (exfalso; omega) | skip)) | (first | refine g_s (fun hb => ?_) (fun hb => ?_) | refine d_s (fun hb => ?_) (fun hb => ?_)) <;> ((try simp only [hn1, hn2] at hb); rw [hb]; try simp only [hn3, hn4] at hb)
      refine st_loop ?_
      repeat' first | refine w_op rfl rfl ?_ | refine x_p rfl ?_ | refine w_sr ?_ | refine st_nil ?_ | refine w_seq ?_ | refine st_region ?_ | refine st_block ?_ | refine w_cond ?_ | refine b_t ?_ | refine b_f ?_ | refine st_skip ?_ | refine st_exit ?_ | refine st_ret ?_ | refine st_onNormN ?_ | refine st_onNormE ?_ | refine st_onNormR ?_ | refine st_onExitN ?_ | refine st_onExitR ?_ | refine st_onExitS ?_ | refine st_onExitO (by decide) ?_ | refine g_t ?_ | refine g_f rfl ?_ | refine o_op rfl ?_ | refine w_wr ?_ | refine w_wn ?_ | refine d_c rfl ?_ | refine d_on rfl ?_ | refine d_op rfl ?_ | refine d_y ?_ | refine d_gd rfl ?_ | refine d_t ?_ | refine d_f ?_ | refine d_nil ?_ | refine w_u true ?_ | refine w_dg rfl ?_ | refine d_mid ?_ | refine d_mj ?_ | refine d_e ?_ | refine n_0 rfl ?_ | refine d_n ?_ | refine k_p rfl rfl rfl rfl (h125) ?_ | refine k_p rfl rfl rfl rfl (h126) ?_ | refine w_gd rfl ?_ | ((first | refine zE1 ?_ | refine w_cl rfl rfl ?_ | refine o_cl rfl ?_ | refine d_cl rfl ?_); (conv => arg 1; try simp only [go_sem, Nat.reduceEqDiff, reduceIte, Nat.reduceAdd, Nat.reduceLeDiff, Nat.reduceMul, Int.reduceEq, Int.reduceLT, Int.reduceLE, Int.reduceNeg, Int.reduceAdd, Int.reduceSub, Nat.reduceLT, Nat.reduceBEq, Nat.reduceSub, Nat.reducePow, hz', W, R, q1, m1, a1, q2, m2, a2, q3, m3, a3, c4, s0, hs', w2, w3, w4, readSl, hbl, hby, hcmp, hbd, n4, Option.map_none, Option.isSome_none]); first | refine zE3 ?_ | refine zE2 ?_ | refine zE4 ?_ | refine zE5 ?_ | refine zE6 ?_ | refine zE7 ?_ | refine zE8 ?_) | (refine b_s (fun hb => ?_) (fun hb => ?_) <;> ((try simp only [hn1, hn2, hn3, hn4] at hb); first | (exfalso; omega) | skip)) | (first | refine g_s (fun hb => ?_) (fun hb => ?_) | refine d_s (fun hb => ?_) (fun hb => ?_)) <;> ((try simp only [hn1, hn2] at hb); rw [hb]; try simp only [hn3, hn4] at hb)
      refine st_loop ?_
      repeat' first | refine w_op rfl rfl ?_ | refine x_p rfl ?_ | refine w_sr ?_ | refine st_nil ?_ | refine w_seq ?_ | refine st_region ?_ | refine st_block ?_ | refine w_cond ?_ | refine b_t ?_ | refine b_f ?_ | refine st_skip ?_ | refine st_exit ?_ | refine st_ret ?_ | refine st_onNormN ?_ | refine st_onNormE ?_ | refine st_onNormR ?_ | refine st_onExitN ?_ | refine st_onExitR ?_ | refine st_onExitS ?_ | refine st_onExitO (by decide) ?_ | refine g_t ?_ | refine g_f rfl ?_ | refine o_op rfl ?_ | refine w_wr ?_ | refine w_wn ?_ | refine d_c rfl ?_ | refine d_on rfl ?_ | refine d_op rfl ?_ | refine d_y ?_ | refine d_gd rfl ?_ | refine d_t ?_ | refine d_f ?_ | refine d_nil ?_ | refine w_u true ?_ | refine w_dg rfl ?_ | refine d_mid ?_ | refine d_mj ?_ | refine d_e ?_ | refine n_0 rfl ?_ | refine d_n ?_ | refine k_p rfl rfl rfl rfl (h125) ?_ | refine k_p rfl rfl rfl rfl (h126) ?_ | refine w_gd rfl ?_ | ((first | refine zE1 ?_ | refine w_cl rfl rfl ?_ | refine o_cl rfl ?_ | refine d_cl rfl ?_); (conv => arg 1; try simp only [go_sem, Nat.reduceEqDiff, reduceIte, Nat.reduceAdd, Nat.reduceLeDiff, Nat.reduceMul, Int.reduceEq, Int.reduceLT, Int.reduceLE, Int.reduceNeg, Int.reduceAdd, Int.reduceSub, Nat.reduceLT, Nat.reduceBEq, Nat.reduceSub, Nat.reducePow, hz', W, R, q1, m1, a1, q2, m2, a2, q3, m3, a3, c4, s0, hs', w2, w3, w4, readSl, hbl, hby, hcmp, hbd, n4, Option.map_none, Option.isSome_none]); first | refine zE3 ?_ | refine zE2 ?_ | refine zE4 ?_ | refine zE5 ?_ | refine zE6 ?_ | refine zE7 ?_ | refine zE8 ?_) | (refine b_s (fun hb => ?_) (fun hb => ?_) <;> ((try simp only [hn1, hn2, hn3, hn4] at hb); first | (exfalso; omega) | skip)) | (first | refine g_s (fun hb => ?_) (fun hb => ?_) | refine d_s (fun hb => ?_) (fun hb => ?_)) <;> ((try simp only [hn1, hn2] at hb); rw [hb]; try simp only [hn3, hn4] at hb)
      refine st_loop ?_
      repeat' first | refine w_op rfl rfl ?_ | refine x_p rfl ?_ | refine w_sr ?_ | refine st_nil ?_ | refine w_seq ?_ | refine st_region ?_ | refine st_block ?_ | refine w_cond ?_ | refine b_t ?_ | refine b_f ?_ | refine st_skip ?_ | refine st_exit ?_ | refine st_ret ?_ | refine st_onNormN ?_ | refine st_onNormE ?_ | refine st_onNormR ?_ | refine st_onExitN ?_ | refine st_onExitR ?_ | refine st_onExitS ?_ | refine st_onExitO (by decide) ?_ | refine g_t ?_ | refine g_f rfl ?_ | refine o_op rfl ?_ | refine w_wr ?_ | refine w_wn ?_ | refine d_c rfl ?_ | refine d_on rfl ?_ | refine d_op rfl ?_ | refine d_y ?_ | refine d_gd rfl ?_ | refine d_t ?_ | refine d_f ?_ | refine d_nil ?_ | refine w_u true ?_ | refine w_dg rfl ?_ | refine d_mid ?_ | refine d_mj ?_ | refine d_e ?_ | refine n_0 rfl ?_ | refine d_n ?_ | refine k_p rfl rfl rfl rfl (h125) ?_ | refine k_p rfl rfl rfl rfl (h126) ?_ | refine w_gd rfl ?_ | ((first | refine zE1 ?_ | refine w_cl rfl rfl ?_ | refine o_cl rfl ?_ | refine d_cl rfl ?_); (conv => arg 1; try simp only [go_sem, Nat.reduceEqDiff, reduceIte, Nat.reduceAdd, Nat.reduceLeDiff, Nat.reduceMul, Int.reduceEq, Int.reduceLT, Int.reduceLE, Int.reduceNeg, Int.reduceAdd, Int.reduceSub, Nat.reduceLT, Nat.reduceBEq, Nat.reduceSub, Nat.reducePow, hz', W, R, q1, m1, a1, q2, m2, a2, q3, m3, a3, c4, s0, hs', w2, w3, w4, readSl, hbl, hby, hcmp, hbd, n4, Option.map_none, Option.isSome_none]); first | refine zE3 ?_ | refine zE2 ?_ | refine zE4 ?_ | refine zE5 ?_ | refine zE6 ?_ | refine zE7 ?_ | refine zE8 ?_) | (refine b_s (fun hb => ?_) (fun hb => ?_) <;> ((try simp only [hn1, hn2, hn3, hn4] at hb); first | (exfalso; omega) | skip)) | (first | refine g_s (fun hb => ?_) (fun hb => ?_) | refine d_s (fun hb => ?_) (fun hb => ?_)) <;> ((try simp only [hn1, hn2] at hb); rw [hb]; try simp only [hn3, hn4] at hb)
      all_goals simp only [one1, frz_t, mapF, frz_s, Option.map_some, List.append_nil, finN, hm, hv]
      all_goals first | (rw [if_pos ⟨trivial, hb⟩]; rfl) | (rw [if_neg (fun h => hb h.2)]; rfl)
end Go.Proofs.Bv
/-
  The reference's First, of any text; Check, text.
  Conditions: none.
-/
namespace Go.Proofs.Bv
open Go
theorem ok123 : codeOk 26 (Tryz.f123.body.getD .skip) = true := by kernel_rfl
theorem ok221 : codeOk 17 (Tryz.f221.body.getD .skip) = true := by kernel_rfl
set_option maxRecDepth 100000 in
theorem pc124 (G : Nat → Option (List AV)) (s : ByteArray) (hn : s.size ≤ 140737488355328) : Pc (Cf G) 124 [.sc (.string s)] (.tup [.sc (.int .i64 (firstS s).1), .sc (.int .i64 (firstS s).2)]) := by
  by_cases hz : s.size = 0
  · have hz' : (s.size : Int) = 0 := by omega
    unfold firstS firstN
    rw [if_pos hz]
    refine Pc_of (Gf_enter (C := Cf G) Tryz.func124 rfl ok124 (Nat.le_of_ble_eq_true rfl) ?_)
    simp only [Tryz.f124, Option.getD_some]
    repeat' first | refine w_op rfl rfl ?_ | refine x_p rfl ?_ | refine w_sr ?_ | refine st_nil ?_ | refine w_seq ?_ | refine st_region ?_ | refine st_block ?_ | refine w_cond ?_ | refine b_t ?_ | refine b_f ?_ | refine st_skip ?_ | refine st_exit ?_ | refine st_ret ?_ | refine st_onNormN ?_ | refine st_onNormE ?_ | refine st_onNormR ?_ | refine st_onExitN ?_ | refine st_onExitR ?_ | refine st_onExitS ?_ | refine st_onExitO (by decide) ?_ | refine g_t ?_ | refine g_f rfl ?_ | refine o_op rfl ?_ | refine w_wr ?_ | refine w_wn ?_ | refine d_c rfl ?_ | refine d_on rfl ?_ | refine d_op rfl ?_ | refine d_y ?_ | refine d_gd rfl ?_ | refine d_t ?_ | refine d_f ?_ | refine d_nil ?_ | refine w_u false ?_ | refine w_dr rfl ?_ | refine d_q ?_ | refine w_gd rfl ?_ | ((first | refine zE1 ?_); (conv => arg 1; try simp only [go_sem, Nat.reduceEqDiff, reduceIte, Nat.reduceAdd, Nat.reduceLeDiff, Nat.reduceMul, Int.reduceEq, Int.reduceLT, Int.reduceLE, Int.reduceNeg, Int.reduceAdd, Int.reduceSub, Nat.reduceLT, Nat.reduceBEq, Nat.reduceSub, Nat.reducePow, hz']); first | refine zE3 ?_ | refine zE2 ?_ | refine zE4 ?_ | refine zE5 ?_ | refine zE6 ?_ | refine zE7 ?_ | refine zE8 ?_) | (refine b_s (fun hb => ?_) (fun hb => ?_) <;> ((try simp only [hn1, hn2, hn3, hn4] at hb); first | (exfalso; omega) | skip)) | (first | refine g_s (fun hb => ?_) (fun hb => ?_) | refine d_s (fun hb => ?_) (fun hb => ?_)) <;> ((try simp only [hn1, hn2] at hb); rw [hb]; try simp only [hn3, hn4] at hb)
    rfl
  · by_cases c4 : 240 ≤ bAt s 0
    · exact pc124_4 G s c4 hz hn
    · by_cases c3 : 224 ≤ bAt s 0
      · exact pc124_3 G s c4 c3 hz hn
      · by_cases c2 : 192 ≤ bAt s 0
        · exact pc124_2 G s c4 c3 c2 hz hn
        · exact pc124_1 G s c4 c3 c2 hz hn
/-- At a place of a text: what the library takes for a character. -/
theorem first_at (s : ByteArray) (p : Nat) (hp : p < s.size) : (firstS (s.extract p s.size)).2 = if runeAt s p < 0 then 0 else wideAt s p := by
  have hs : (s.extract p s.size).size = s.size - p := by simp
  have h0 : ¬ (s.extract p s.size).size = 0 := by omega
  have e : Lib.decodeGo (s.extract p s.size) = Lib.decodeN (s.extract p s.size).size (bAt (s.extract p s.size) 0) (bAt (s.extract p s.size) 1) (bAt (s.extract p s.size) 2) (bAt (s.extract p s.size) 3) := by
    unfold Lib.decodeGo
    rw [if_neg h0, Lib.decode_at]
    rfl
  unfold firstS
  rw [first_good _ _ _ _ _ (by omega) (bAt_lt _ _) (bAt_lt _ _) (bAt_lt _ _) (bAt_lt _ _), ← e]
  unfold goodN runeAt wideAt
  by_cases hc : (Lib.decodeGo (s.extract p s.size)).1 = 65533 ∧ (Lib.decodeGo (s.extract p s.size)).2 = 1
  · rw [if_pos hc, if_pos (by omega)]
  · rw [if_neg hc, if_neg (by omega)]
set_option maxHeartbeats 2000000 in
set_option maxRecDepth 100000 in
theorem pc123 (G : Nat → Option (List AV)) (s : ByteArray) (hn : s.size ≤ 140737488355328) : Pc (Cf G) 123 [.sc (.string s)] (.tup [.sc (.int .i64 (chkFrom s 0).1), .sc (.int .i64 (chkFrom s 0).2)]) := by
  refine Pc_of (Gf_enter (C := Cf G) Tryz.func123 rfl ok123 (Nat.le_of_ble_eq_true rfl) ?_)
  simp only [Tryz.f123, Option.getD_some]
  repeat' first | refine w_op rfl rfl ?_ | refine x_p rfl ?_ | refine w_sr ?_ | refine st_nil ?_ | refine w_seq ?_ | refine st_region ?_ | refine st_block ?_ | refine w_cond ?_ | refine b_t ?_ | refine b_f ?_ | refine st_skip ?_ | refine st_exit ?_ | refine st_ret ?_ | refine st_onNormN ?_ | refine st_onNormE ?_ | refine st_onNormR ?_ | refine st_onExitN ?_ | refine st_onExitR ?_ | refine st_onExitS ?_ | refine st_onExitO (by decide) ?_ | refine g_t ?_ | refine g_f rfl ?_ | refine o_op rfl ?_ | refine w_wr ?_ | refine w_wn ?_ | refine d_c rfl ?_ | refine d_on rfl ?_ | refine d_op rfl ?_ | refine d_y ?_ | refine d_gd rfl ?_ | refine d_t ?_ | refine d_f ?_ | refine d_nil ?_ | refine w_u false ?_ | refine w_dr rfl ?_ | refine d_q ?_ | refine w_gd rfl ?_ | ((first | refine zE1 ?_); (conv => arg 1; try simp only [go_sem, Nat.reduceEqDiff, reduceIte, Nat.reduceAdd, Nat.reduceLeDiff, Nat.reduceMul, Int.reduceEq, Int.reduceLT, Int.reduceLE, Int.reduceNeg, Int.reduceAdd, Int.reduceSub, Nat.reduceLT, Nat.reduceBEq, Nat.reduceSub, Nat.reducePow]); first | refine zE3 ?_ | refine zE2 ?_ | refine zE4 ?_ | refine zE5 ?_ | refine zE6 ?_ | refine zE7 ?_ | refine zE8 ?_) | (refine b_s (fun hb => ?_) (fun hb => ?_) <;> ((try simp only [hn1, hn2, hn3, hn4] at hb); first | (exfalso; omega) | skip)) | (first | refine g_s (fun hb => ?_) (fun hb => ?_) | refine d_s (fun hb => ?_) (fun hb => ?_)) <;> ((try simp only [hn1, hn2] at hb); rw [hb]; try simp only [hn3, hn4] at hb)
  refine Gc_loop_inv (fun m st => ∃ p : Nat, p ≤ s.size ∧ m = s.size - p ∧ chkFrom s p = chkFrom s 0 ∧ st.T 0 = .sc (.string s) ∧ st.T 4 = .sc (.int .i64 p)) ?_ s.size _ ⟨0, by omega, by omega, rfl, ?_⟩
  · rintro m ⟨T, h, n⟩ ⟨p, hp, rfl, hch, h0, h4⟩
    simp only at h0 h4
    by_cases hlt : p < s.size
    · have hlt' : (p : Int) < (s.size : Int) := by omega
      have hst : chkFrom s p = if runeAt s p < 0 then ((p : Int), 61) else chkFrom s (p + wideAt s p) := by rw [chkFrom, dif_pos hlt]
      have hbd : bnds s.size (some (.sc (.int .i64 (p : Int)))) none = some (p, s.size) := by
        simp only [bnds, asNat]
        rw [if_pos (by omega)]
        simp
        omega
      have hf := pc124 G (s.extract p s.size) (by simp; omega)
      have hfa := first_at s p hlt
      have hwr := wide_rng s p hlt
      by_cases hr : runeAt s p < 0
      · rw [if_pos hr] at hfa hst
        rw [hfa] at hf
        repeat' first | refine w_op rfl rfl ?_ | refine x_p rfl ?_ | refine w_sr ?_ | refine st_nil ?_ | refine w_seq ?_ | refine st_region ?_ | refine st_block ?_ | refine w_cond ?_ | refine b_t ?_ | refine b_f ?_ | refine st_skip ?_ | refine st_exit ?_ | refine st_ret ?_ | refine st_onNormN ?_ | refine st_onNormE ?_ | refine st_onNormR ?_ | refine st_onExitN ?_ | refine st_onExitR ?_ | refine st_onExitS ?_ | refine st_onExitO (by decide) ?_ | refine g_t ?_ | refine g_f rfl ?_ | refine o_op rfl ?_ | refine w_wr ?_ | refine w_wn ?_ | refine d_c rfl ?_ | refine d_on rfl ?_ | refine d_op rfl ?_ | refine d_y ?_ | refine d_gd rfl ?_ | refine d_t ?_ | refine d_f ?_ | refine d_nil ?_ | refine w_u false ?_ | refine w_dr rfl ?_ | refine d_q ?_ | refine n_0 rfl ?_ | refine d_n ?_ | refine k_p rfl rfl rfl rfl (hf) ?_ | refine w_gd rfl ?_ | ((first | refine zE1 ?_ | refine w_cl rfl rfl ?_ | refine o_cl rfl ?_ | refine d_cl rfl ?_); (conv => arg 1; try simp only [go_sem, Nat.reduceEqDiff, reduceIte, Nat.reduceAdd, Nat.reduceLeDiff, Nat.reduceMul, Int.reduceEq, Int.reduceLT, Int.reduceLE, Int.reduceNeg, Int.reduceAdd, Int.reduceSub, Nat.reduceLT, Nat.reduceBEq, Nat.reduceSub, Nat.reducePow, h0, h4, hlt', hbd, Option.map_none, Option.isSome_none, Int.natCast_zero]); first | refine zE3 ?_ | refine zE2 ?_ | refine zE4 ?_ | refine zE5 ?_ | refine zE6 ?_ | refine zE7 ?_ | refine zE8 ?_) | (refine b_s (fun hb => ?_) (fun hb => ?_) <;> ((try simp only [hn1, hn2, hn3, hn4] at hb); first | (exfalso; omega) | skip)) | (first | refine g_s (fun hb => ?_) (fun hb => ?_) | refine d_s (fun hb => ?_) (fun hb => ?_)) <;> ((try simp only [hn1, hn2] at hb); rw [hb]; try simp only [hn3, hn4] at hb)
        rw [← hch, hst]
        rfl
      · rw [if_neg hr] at hfa hst
        rw [hfa] at hf
        have hne : ¬ ((wideAt s p : Nat) : Int) = 0 := by omega
        have hadd : IntKind.i64.wrap ((p : Int) + ((wideAt s p : Nat) : Int)) = ((p + wideAt s p : Nat) : Int) := by rw [i64 (by omega) (by omega)]; omega
        repeat' first | refine w_op rfl rfl ?_ | refine x_p rfl ?_ | refine w_sr ?_ | refine st_nil ?_ | refine w_seq ?_ | refine st_region ?_ | refine st_block ?_ | refine w_cond ?_ | refine b_t ?_ | refine b_f ?_ | refine st_skip ?_ | refine st_exit ?_ | refine st_ret ?_ | refine st_onNormN ?_ | refine st_onNormE ?_ | refine st_onNormR ?_ | refine st_onExitN ?_ | refine st_onExitR ?_ | refine st_onExitS ?_ | refine st_onExitO (by decide) ?_ | refine g_t ?_ | refine g_f rfl ?_ | refine o_op rfl ?_ | refine w_wr ?_ | refine w_wn ?_ | refine d_c rfl ?_ | refine d_on rfl ?_ | refine d_op rfl ?_ | refine d_y ?_ | refine d_gd rfl ?_ | refine d_t ?_ | refine d_f ?_ | refine d_nil ?_ | refine w_u false ?_ | refine w_dr rfl ?_ | refine d_q ?_ | refine n_0 rfl ?_ | refine d_n ?_ | refine k_p rfl rfl rfl rfl (hf) ?_ | refine w_gd rfl ?_ | ((first | refine zE1 ?_ | refine w_cl rfl rfl ?_ | refine o_cl rfl ?_ | refine d_cl rfl ?_); (conv => arg 1; try simp only [go_sem, Nat.reduceEqDiff, reduceIte, Nat.reduceAdd, Nat.reduceLeDiff, Nat.reduceMul, Int.reduceEq, Int.reduceLT, Int.reduceLE, Int.reduceNeg, Int.reduceAdd, Int.reduceSub, Nat.reduceLT, Nat.reduceBEq, Nat.reduceSub, Nat.reducePow, h0, h4, hlt', hbd, Option.map_none, Option.isSome_none, hne, hadd]); first | refine zE3 ?_ | refine zE2 ?_ | refine zE4 ?_ | refine zE5 ?_ | refine zE6 ?_ | refine zE7 ?_ | refine zE8 ?_) | (refine b_s (fun hb => ?_) (fun hb => ?_) <;> ((try simp only [hn1, hn2, hn3, hn4] at hb); first | (exfalso; omega) | skip)) | (first | refine g_s (fun hb => ?_) (fun hb => ?_) | refine d_s (fun hb => ?_) (fun hb => ?_)) <;> ((try simp only [hn1, hn2] at hb); rw [hb]; try simp only [hn3, hn4] at hb)
        refine ⟨s.size - (p + wideAt s p), by omega, p + wideAt s p, by omega, rfl, by rw [← hst]; exact hch, ?_, ?_⟩
        · simp only [vop, val, argsT, upd_ap, Nat.reduceEqDiff, if_true, if_false, ite_true, ite_false, reduceIte, loadAt, loadA, AV.cells, AV.one, List.all_cons, List.all_nil, ofV, ofCell, plain, List.getElem?_cons_zero, List.getElem?_cons_succ, List.getElem?_toArray, Option.getD_some, Bool.not_true, Bool.not_false, Bool.false_eq_true, Bool.and_true, Bool.true_and, Bool.and_self, Nat.zero_add, Option.map_some, Option.bind_some, List.map_cons, List.map_nil, ev_add, ev_sub, ev_mul, ev_lss, ev_leq, ev_gtr, ev_geq, ev_eql, ev_neq, ev_seql, ev_sneq, ev_sleq, ev_slss, ev_not, ev_min, ev_max, asNat_nat, asNat_zero, asNat_one, asNat_two, asNat_three, vb_len, List.length_cons, List.length_nil, Nat.reduceAdd, Nat.reduceLeDiff, Nat.reduceMul, Int.reduceEq, Int.reduceLT, Int.reduceLE, Int.reduceNeg, Int.reduceAdd, Int.reduceSub, Nat.reduceLT, decide_true, decide_false, not_true_eq_false, not_false_eq_true, and_self, and_true, true_and, storeA, List.take_zero, List.drop_succ_cons, List.drop_zero, List.nil_append, List.append_nil, List.take_succ_cons, List.cons_append, cut_cons, cut_zero, cut_skip, tAt, hHide, hAt, upsAt, List.contains_cons, List.contains_nil, Nat.reduceBEq, Bool.or_true, Bool.true_or, Bool.or_false, Bool.false_or, Bool.or_self, Bool.and_true, Bool.true_and, Bool.and_false, Bool.false_and, beq_self_eq_true (α := Nat), Option.some_beq_some, Option.none_beq_some, Option.some_beq_none, Bool.false_eq_true, List.all_nil, touch, touchB, Nat.sub_self, List.range'_zero, Nat.add_sub_cancel_left, List.range'_one, h0]
        · simp only [vop, val, argsT, upd_ap, Nat.reduceEqDiff, if_true, if_false, ite_true, ite_false, reduceIte, loadAt, loadA, AV.cells, AV.one, List.all_cons, List.all_nil, ofV, ofCell, plain, List.getElem?_cons_zero, List.getElem?_cons_succ, List.getElem?_toArray, Option.getD_some, Bool.not_true, Bool.not_false, Bool.false_eq_true, Bool.and_true, Bool.true_and, Bool.and_self, Nat.zero_add, Option.map_some, Option.bind_some, List.map_cons, List.map_nil, ev_add, ev_sub, ev_mul, ev_lss, ev_leq, ev_gtr, ev_geq, ev_eql, ev_neq, ev_seql, ev_sneq, ev_sleq, ev_slss, ev_not, ev_min, ev_max, asNat_nat, asNat_zero, asNat_one, asNat_two, asNat_three, vb_len, List.length_cons, List.length_nil, Nat.reduceAdd, Nat.reduceLeDiff, Nat.reduceMul, Int.reduceEq, Int.reduceLT, Int.reduceLE, Int.reduceNeg, Int.reduceAdd, Int.reduceSub, Nat.reduceLT, decide_true, decide_false, not_true_eq_false, not_false_eq_true, and_self, and_true, true_and, storeA, List.take_zero, List.drop_succ_cons, List.drop_zero, List.nil_append, List.append_nil, List.take_succ_cons, List.cons_append, cut_cons, cut_zero, cut_skip, tAt, hHide, hAt, upsAt, List.contains_cons, List.contains_nil, Nat.reduceBEq, Bool.or_true, Bool.true_or, Bool.or_false, Bool.false_or, Bool.or_self, Bool.and_true, Bool.true_and, Bool.and_false, Bool.false_and, beq_self_eq_true (α := Nat), Option.some_beq_some, Option.none_beq_some, Option.some_beq_none, Bool.false_eq_true, List.all_nil, touch, touchB, Nat.sub_self, List.range'_zero, Nat.add_sub_cancel_left, List.range'_one]
    · have hge : ¬ (p : Int) < (s.size : Int) := by omega
      have hst : chkFrom s p = ((s.size : Int), 0) := by rw [chkFrom, dif_neg (by omega)]
      repeat' first | refine w_op rfl rfl ?_ | refine x_p rfl ?_ | refine w_sr ?_ | refine st_nil ?_ | refine w_seq ?_ | refine st_region ?_ | refine st_block ?_ | refine w_cond ?_ | refine b_t ?_ | refine b_f ?_ | refine st_skip ?_ | refine st_exit ?_ | refine st_ret ?_ | refine st_onNormN ?_ | refine st_onNormE ?_ | refine st_onNormR ?_ | refine st_onExitN ?_ | refine st_onExitR ?_ | refine st_onExitS ?_ | refine st_onExitO (by decide) ?_ | refine g_t ?_ | refine g_f rfl ?_ | refine o_op rfl ?_ | refine w_wr ?_ | refine w_wn ?_ | refine d_c rfl ?_ | refine d_on rfl ?_ | refine d_op rfl ?_ | refine d_y ?_ | refine d_gd rfl ?_ | refine d_t ?_ | refine d_f ?_ | refine d_nil ?_ | refine w_u false ?_ | refine w_dr rfl ?_ | refine d_q ?_ | refine w_gd rfl ?_ | ((first | refine zE1 ?_); (conv => arg 1; try simp only [go_sem, Nat.reduceEqDiff, reduceIte, Nat.reduceAdd, Nat.reduceLeDiff, Nat.reduceMul, Int.reduceEq, Int.reduceLT, Int.reduceLE, Int.reduceNeg, Int.reduceAdd, Int.reduceSub, Nat.reduceLT, Nat.reduceBEq, Nat.reduceSub, Nat.reducePow, h0, h4, hge]); first | refine zE3 ?_ | refine zE2 ?_ | refine zE4 ?_ | refine zE5 ?_ | refine zE6 ?_ | refine zE7 ?_ | refine zE8 ?_) | (refine b_s (fun hb => ?_) (fun hb => ?_) <;> ((try simp only [hn1, hn2, hn3, hn4] at hb); first | (exfalso; omega) | skip)) | (first | refine g_s (fun hb => ?_) (fun hb => ?_) | refine d_s (fun hb => ?_) (fun hb => ?_)) <;> ((try simp only [hn1, hn2] at hb); rw [hb]; try simp only [hn3, hn4] at hb)
      rw [← hch, hst]
      rfl
  · simp [upd_ap, argsT]
theorem chk_codes (s : ByteArray) (p : Nat) : (chkFrom s p).2 = 0 ∨ (chkFrom s p).2 = 61 := by
  induction h : s.size - p using Nat.strongRecOn generalizing p with
  | ind m ih =>
    rw [chkFrom]
    split
    · rename_i hp
      split
      · exact .inr rfl
      · have := wide_rng s p hp
        exact ih (s.size - (p + wideAt s p)) (by omega) (p + wideAt s p) rfl
    · exact .inl rfl
set_option maxRecDepth 100000 in
theorem pc221 (G : Nat → Option (List AV)) (s : ByteArray) (hn : s.size ≤ 140737488355328) : Pc (Cf G) 221 [.sc (.string s)] (.sc (.int .i64 (letters s))) := by
  have hc := pc123 G s hn
  have hcc := chk_codes s 0
  unfold letters
  generalize chkFrom s 0 = e at hc hcc
  obtain ⟨a, e⟩ := e
  simp only at hc hcc
  refine Pc_of (Gf_enter (C := Cf G) Tryz.func221 rfl ok221 (Nat.le_of_ble_eq_true rfl) ?_)
  simp only [Tryz.f221, Option.getD_some]
  by_cases he : e = 0
  · by_cases hl : 16384 < (s.size : Int)
    · repeat' first | refine w_op rfl rfl ?_ | refine x_p rfl ?_ | refine w_sr ?_ | refine st_nil ?_ | refine w_seq ?_ | refine st_region ?_ | refine st_block ?_ | refine w_cond ?_ | refine b_t ?_ | refine b_f ?_ | refine st_skip ?_ | refine st_exit ?_ | refine st_ret ?_ | refine st_onNormN ?_ | refine st_onNormE ?_ | refine st_onNormR ?_ | refine st_onExitN ?_ | refine st_onExitR ?_ | refine st_onExitS ?_ | refine st_onExitO (by decide) ?_ | refine g_t ?_ | refine g_f rfl ?_ | refine o_op rfl ?_ | refine w_wr ?_ | refine w_wn ?_ | refine d_c rfl ?_ | refine d_on rfl ?_ | refine d_op rfl ?_ | refine d_y ?_ | refine d_gd rfl ?_ | refine d_t ?_ | refine d_f ?_ | refine d_nil ?_ | refine w_u false ?_ | refine w_dr rfl ?_ | refine d_q ?_ | refine n_0 rfl ?_ | refine d_n ?_ | refine k_p rfl rfl rfl rfl (hc) ?_ | refine w_gd rfl ?_ | ((first | refine zE1 ?_ | refine w_cl rfl rfl ?_ | refine o_cl rfl ?_ | refine d_cl rfl ?_); (conv => arg 1; try simp only [go_sem, Nat.reduceEqDiff, reduceIte, Nat.reduceAdd, Nat.reduceLeDiff, Nat.reduceMul, Int.reduceEq, Int.reduceLT, Int.reduceLE, Int.reduceNeg, Int.reduceAdd, Int.reduceSub, Nat.reduceLT, Nat.reduceBEq, Nat.reduceSub, Nat.reducePow, he, hl]); first | refine zE3 ?_ | refine zE2 ?_ | refine zE4 ?_ | refine zE5 ?_ | refine zE6 ?_ | refine zE7 ?_ | refine zE8 ?_) | (refine b_s (fun hb => ?_) (fun hb => ?_) <;> ((try simp only [hn1, hn2, hn3, hn4] at hb); first | (exfalso; omega) | skip)) | (first | refine g_s (fun hb => ?_) (fun hb => ?_) | refine d_s (fun hb => ?_) (fun hb => ?_)) <;> ((try simp only [hn1, hn2] at hb); rw [hb]; try simp only [hn3, hn4] at hb)
      simp only [one1, frz_sc, Option.map_some, he, hl, if_true]
    · repeat' first | refine w_op rfl rfl ?_ | refine x_p rfl ?_ | refine w_sr ?_ | refine st_nil ?_ | refine w_seq ?_ | refine st_region ?_ | refine st_block ?_ | refine w_cond ?_ | refine b_t ?_ | refine b_f ?_ | refine st_skip ?_ | refine st_exit ?_ | refine st_ret ?_ | refine st_onNormN ?_ | refine st_onNormE ?_ | refine st_onNormR ?_ | refine st_onExitN ?_ | refine st_onExitR ?_ | refine st_onExitS ?_ | refine st_onExitO (by decide) ?_ | refine g_t ?_ | refine g_f rfl ?_ | refine o_op rfl ?_ | refine w_wr ?_ | refine w_wn ?_ | refine d_c rfl ?_ | refine d_on rfl ?_ | refine d_op rfl ?_ | refine d_y ?_ | refine d_gd rfl ?_ | refine d_t ?_ | refine d_f ?_ | refine d_nil ?_ | refine w_u false ?_ | refine w_dr rfl ?_ | refine d_q ?_ | refine n_0 rfl ?_ | refine d_n ?_ | refine k_p rfl rfl rfl rfl (hc) ?_ | refine w_gd rfl ?_ | ((first | refine zE1 ?_ | refine w_cl rfl rfl ?_ | refine o_cl rfl ?_ | refine d_cl rfl ?_); (conv => arg 1; try simp only [go_sem, Nat.reduceEqDiff, reduceIte, Nat.reduceAdd, Nat.reduceLeDiff, Nat.reduceMul, Int.reduceEq, Int.reduceLT, Int.reduceLE, Int.reduceNeg, Int.reduceAdd, Int.reduceSub, Nat.reduceLT, Nat.reduceBEq, Nat.reduceSub, Nat.reducePow, he, hl]); first | refine zE3 ?_ | refine zE2 ?_ | refine zE4 ?_ | refine zE5 ?_ | refine zE6 ?_ | refine zE7 ?_ | refine zE8 ?_) | (refine b_s (fun hb => ?_) (fun hb => ?_) <;> ((try simp only [hn1, hn2, hn3, hn4] at hb); first | (exfalso; omega) | skip)) | (first | refine g_s (fun hb => ?_) (fun hb => ?_) | refine d_s (fun hb => ?_) (fun hb => ?_)) <;> ((try simp only [hn1, hn2] at hb); rw [hb]; try simp only [hn3, hn4] at hb)
      simp only [one1, frz_sc, Option.map_some, he, hl, if_true, if_false]
  · have e61 : e = 61 := by omega
    subst e61
    repeat' first | refine w_op rfl rfl ?_ | refine x_p rfl ?_ | refine w_sr ?_ | refine st_nil ?_ | refine w_seq ?_ | refine st_region ?_ | refine st_block ?_ | refine w_cond ?_ | refine b_t ?_ | refine b_f ?_ | refine st_skip ?_ | refine st_exit ?_ | refine st_ret ?_ | refine st_onNormN ?_ | refine st_onNormE ?_ | refine st_onNormR ?_ | refine st_onExitN ?_ | refine st_onExitR ?_ | refine st_onExitS ?_ | refine st_onExitO (by decide) ?_ | refine g_t ?_ | refine g_f rfl ?_ | refine o_op rfl ?_ | refine w_wr ?_ | refine w_wn ?_ | refine d_c rfl ?_ | refine d_on rfl ?_ | refine d_op rfl ?_ | refine d_y ?_ | refine d_gd rfl ?_ | refine d_t ?_ | refine d_f ?_ | refine d_nil ?_ | refine w_u false ?_ | refine w_dr rfl ?_ | refine d_q ?_ | refine n_0 rfl ?_ | refine d_n ?_ | refine k_p rfl rfl rfl rfl (hc) ?_ | refine w_gd rfl ?_ | ((first | refine zE1 ?_ | refine w_cl rfl rfl ?_ | refine o_cl rfl ?_ | refine d_cl rfl ?_); (conv => arg 1; try simp only [go_sem, Nat.reduceEqDiff, reduceIte, Nat.reduceAdd, Nat.reduceLeDiff, Nat.reduceMul, Int.reduceEq, Int.reduceLT, Int.reduceLE, Int.reduceNeg, Int.reduceAdd, Int.reduceSub, Nat.reduceLT, Nat.reduceBEq, Nat.reduceSub, Nat.reducePow]); first | refine zE3 ?_ | refine zE2 ?_ | refine zE4 ?_ | refine zE5 ?_ | refine zE6 ?_ | refine zE7 ?_ | refine zE8 ?_) | (refine b_s (fun hb => ?_) (fun hb => ?_) <;> ((try simp only [hn1, hn2, hn3, hn4] at hb); first | (exfalso; omega) | skip)) | (first | refine g_s (fun hb => ?_) (fun hb => ?_) | refine d_s (fun hb => ?_) (fun hb => ?_)) <;> ((try simp only [hn1, hn2] at hb); rw [hb]; try simp only [hn3, hn4] at hb)
    simp [one1, frz_sc]
end Go.Proofs.Bv
/-
  The reference's own error of a value.
  Conditions: none.
-/
namespace Go.Proofs.Bv
open Go
theorem ok158 : codeOk 135 (Tryz.f158.body.getD .skip) = true := by kernel_rfl
/-- A value that may be, but for its parts, has no error in the reference. -/
theorem own_parts {k : Int} {ng : Bool} {cf : List Int} {ex : Int} {t : ByteArray} {l : List JV} {ks : List ByteArray} (h : own (.mk k ng cf ex t l ks) = 0) :
    (0 ≤ k ∧ k ≤ 6) ∧ letters t = 0 ∧ (∀ s ∈ ks, letters s = 0) ∧ (l.length : Int) ≤ 4096 ∧ (ks.length : Int) ≤ 4096 ∧ numOk (.mk k ng cf ex t l ks) = true ∧ used (.mk k ng cf ex t l ks) = true ∧ rises ks = true := by
  simp only [own] at h
  have ht : ∀ (ks : List ByteArray) (e : Int), textsK ks e = 0 → e = 0 ∧ ∀ s ∈ ks, letters s = 0 := by
    intro ks
    induction ks with
    | nil => intro e he; exact ⟨by simpa [textsK] using he, by simp⟩
    | cons s ks ih =>
      intro e he
      simp only [textsK] at he
      obtain ⟨h1, h2⟩ := ih _ he
      unfold or2 at h1
      split at h1
      · rename_i h0
        refine ⟨h0, fun s' hs' => ?_⟩
        rcases List.mem_cons.1 hs' with rfl | hs'
        · exact h1
        · exact h2 s' hs'
      · rename_i h0
        exact absurd h1 h0
  split at h
  · omega
  · split at h
    · rename_i h1 h2
      exact absurd h h2
    · split at h
      · omega
      · split at h
        · omega
        · rename_i h1 h2 h3 h4
          simp only [Decidable.not_not, texts] at h2
          obtain ⟨h5, h6⟩ := ht _ _ h2
          refine ⟨by omega, h5, h6, by omega, by omega, ?_, ?_, ?_⟩
          all_goals
            simp only [not_or, Bool.not_eq_false] at h4
            first | exact h4.1 | exact h4.2.1 | exact h4.2.2
theorem rise_at {d r : List ByteArray} {p k : ByteArray} (h : rises (d ++ p :: k :: r) = true) : sle k p = false := by
  have aux : ∀ (d : List ByteArray) (q : ByteArray), riseAt q (d ++ p :: k :: r) = true → sle k p = false := by
    intro d
    induction d with
    | nil =>
      intro q h
      simp only [List.nil_append, riseAt, Bool.and_eq_true, Bool.not_eq_true'] at h
      exact h.2.1
    | cons x d ih =>
      intro q h
      simp only [List.cons_append, riseAt, Bool.and_eq_true] at h
      exact ih x h.2
  cases d with
  | nil =>
    simp only [List.nil_append, rises, riseAt, Bool.and_eq_true, Bool.not_eq_true'] at h
    exact h.1
  | cons x d => exact aux d x h
set_option maxHeartbeats 16000000 in
set_option maxRecDepth 100000 in
theorem pc158 (G : Nat → Option (List AV)) (v : JV) (hfit : Fit v) (h0 : own v = 0) : Pc (Cf G) 158 [.agg (enc v)] (.sc (.int .i64 0)) := by
  obtain ⟨k, ng, cf, ex, t, l, ks⟩ := v
  obtain ⟨hk, hlt, hlk, hll, hlks, hnum, hus, hri⟩ := own_parts h0
  have h221 := pc221 G t hfit.1.ntext
  rw [hlt] at h221
  have hk1 : ¬ k < 0 := by omega
  have hk2 : ¬ 6 < k := by omega
  refine Pc_of (Gf_enter (C := Cf G) Tryz.func158 rfl ok158 (Nat.le_of_ble_eq_true rfl) ?_)
  simp only [Tryz.f158, Option.getD_some]
  simp only [enc]
  repeat' first | refine w_op rfl rfl ?_ | refine x_p rfl ?_ | refine w_sr ?_ | refine st_nil ?_ | refine w_seq ?_ | refine st_region ?_ | refine st_block ?_ | refine w_cond ?_ | refine b_t ?_ | refine b_f ?_ | refine st_skip ?_ | refine st_exit ?_ | refine st_ret ?_ | refine st_onNormN ?_ | refine st_onNormE ?_ | refine st_onNormR ?_ | refine st_onExitN ?_ | refine st_onExitR ?_ | refine st_onExitS ?_ | refine st_onExitO (by decide) ?_ | refine g_t ?_ | refine g_f rfl ?_ | refine o_op rfl ?_ | refine w_wr ?_ | refine w_wn ?_ | refine d_c rfl ?_ | refine d_on rfl ?_ | refine d_op rfl ?_ | refine d_y ?_ | refine d_gd rfl ?_ | refine d_t ?_ | refine d_f ?_ | refine d_nil ?_ | refine w_u false ?_ | refine w_dr rfl ?_ | refine d_q ?_ | refine n_0 rfl ?_ | refine d_n ?_ | refine k_p rfl rfl rfl rfl (h221) ?_ | refine w_gd rfl ?_ | ((first | refine zE1 ?_ | refine w_cl rfl rfl ?_ | refine o_cl rfl ?_ | refine d_cl rfl ?_); (conv => arg 1; try simp only [go_sem, Nat.reduceEqDiff, reduceIte, Nat.reduceAdd, Nat.reduceLeDiff, Nat.reduceMul, Int.reduceEq, Int.reduceLT, Int.reduceLE, Int.reduceNeg, Int.reduceAdd, Int.reduceSub, Nat.reduceLT, Nat.reduceBEq, Nat.reduceSub, Nat.reducePow, hk1, hk2]); first | refine zE3 ?_ | refine zE2 ?_ | refine zE4 ?_ | refine zE5 ?_ | refine zE6 ?_ | refine zE7 ?_ | refine zE8 ?_) | (refine b_s (fun hb => ?_) (fun hb => ?_) <;> ((try simp only [hn1, hn2, hn3, hn4] at hb); first | (exfalso; omega) | skip)) | (first | refine g_s (fun hb => ?_) (fun hb => ?_) | refine d_s (fun hb => ?_) (fun hb => ?_)) <;> ((try simp only [hn1, hn2] at hb); rw [hb]; try simp only [hn3, hn4] at hb)
  have hnk := hfit.1.nkeys
  simp only [used, Bool.and_eq_true, Bool.or_eq_true, decide_eq_true_eq] at hus
  obtain ⟨⟨hu1, hu2⟩, hu3⟩ := hus
  have hT : ¬ k = 4 → (t.toList == (ByteArray.mk #[]).toList) = true := fun h => hu1.resolve_left h
  refine Gc_loop_inv (fun m st => ∃ d r, ks = d ++ r ∧ m = r.length ∧ st.T 1 = .ptr 0 0 ∧ st.T 3 = .sc (.int .i64 0) ∧ st.T 4 = .sc (.int .i64 d.length) ∧ st.h 0 = some (.cells [.sc (.int .i64 k), .sc (.bool ng), .psl (u32s cf) cf.length, .sc (.int .i64 ex), .sc (.string t), .psl (encs l) l.length, .psl (strs ks) ks.length] 0 false)) ?_ ks.length _ ⟨[], ks, rfl, rfl, ?_⟩
  · rintro m ⟨T, h, n⟩ ⟨d, r, hdr, rfl, t1, t3, t4, q0⟩
    simp only at t1 t3 t4 q0
    cases r with
    | cons s r =>
      have hlt : (d.length : Int) < (ks.length : Int) := by rw [hdr]; simp; omega
      have hltn : d.length < ks.length := by omega
      have hk := strs_at hdr
      have h221 := pc221 G s (hfit.1.nkey s (by rw [hdr]; simp))
      rw [hlk s (by rw [hdr]; simp)] at h221
      have w1 : IntKind.i64.wrap ((d.length : Int) + 1) = (d.length : Int) + 1 := i64 (by omega) (by omega)
      repeat' first | refine w_op rfl rfl ?_ | refine x_p rfl ?_ | refine w_sr ?_ | refine st_nil ?_ | refine w_seq ?_ | refine st_region ?_ | refine st_block ?_ | refine w_cond ?_ | refine b_t ?_ | refine b_f ?_ | refine st_skip ?_ | refine st_exit ?_ | refine st_ret ?_ | refine st_onNormN ?_ | refine st_onNormE ?_ | refine st_onNormR ?_ | refine st_onExitN ?_ | refine st_onExitR ?_ | refine st_onExitS ?_ | refine st_onExitO (by decide) ?_ | refine g_t ?_ | refine g_f rfl ?_ | refine o_op rfl ?_ | refine w_wr ?_ | refine w_wn ?_ | refine d_c rfl ?_ | refine d_on rfl ?_ | refine d_op rfl ?_ | refine d_y ?_ | refine d_gd rfl ?_ | refine d_t ?_ | refine d_f ?_ | refine d_nil ?_ | refine w_u false ?_ | refine w_dr rfl ?_ | refine d_q ?_ | refine n_0 rfl ?_ | refine d_n ?_ | refine k_p rfl rfl rfl rfl (h221) ?_ | refine w_gd rfl ?_ | ((first | refine zE1 ?_ | refine w_cl rfl rfl ?_ | refine o_cl rfl ?_ | refine d_cl rfl ?_); (conv => arg 1; try simp only [go_sem, Nat.reduceEqDiff, reduceIte, Nat.reduceAdd, Nat.reduceLeDiff, Nat.reduceMul, Int.reduceEq, Int.reduceLT, Int.reduceLE, Int.reduceNeg, Int.reduceAdd, Int.reduceSub, Nat.reduceLT, Nat.reduceBEq, Nat.reduceSub, Nat.reducePow, t1, t3, t4, q0, hlt, hltn, hk, w1]); first | refine zE3 ?_ | refine zE2 ?_ | refine zE4 ?_ | refine zE5 ?_ | refine zE6 ?_ | refine zE7 ?_ | refine zE8 ?_) | (refine b_s (fun hb => ?_) (fun hb => ?_) <;> ((try simp only [hn1, hn2, hn3, hn4] at hb); first | (exfalso; omega) | skip)) | (first | refine g_s (fun hb => ?_) (fun hb => ?_) | refine d_s (fun hb => ?_) (fun hb => ?_)) <;> ((try simp only [hn1, hn2] at hb); rw [hb]; try simp only [hn3, hn4] at hb)
      refine ⟨r.length, by simp, d ++ [s], r, by simp [hdr], rfl, ?_, ?_, ?_, q0⟩
      all_goals simp [upd_ap, t1, t3]
    | nil =>
      have hge : ¬ (d.length : Int) < (ks.length : Int) := by rw [hdr]; simp
      have hlong : ¬ 4096 < (l.length : Int) := by omega
      have hlong2 : ¬ 4096 < (ks.length : Int) := by omega
      have hcase : k = 3 ∨ k = 4 ∨ k = 5 ∨ k = 6 ∨ k ≤ 2 := by omega
      clear h221
      have h48 := pc48 G ng false cf [] ex 0 (by have := hfit.1.ncoef; omega)
      have hz : ¬ k = 3 → sameD ng cf ex false [] 0 = true := by
        intro h3
        simp only [numOk, if_neg h3, Bool.and_eq_true, decide_eq_true_eq, Bool.not_eq_true'] at hnum
        obtain ⟨⟨h1, h2⟩, h4⟩ := hnum
        have e : cf = [] := List.eq_nil_of_length_eq_zero (by omega)
        subst e; subst h4; subst h1
        rfl
      simp only [u32s, List.map_nil, List.length_nil] at h48
      have hu : List.map (fun x => AV.sc (Value.int IntKind.u32 x)) cf = u32s cf := rfl
      rw [hu] at h48
      rcases hcase with rfl | rfl | rfl | rfl | hk2'
      · simp only [numOk, if_true, decide_eq_true_eq] at hnum
        have h133 := pc133 G ng cf ex (by have := hfit.1.ncoef; omega) (fun c hc => hfit.1.coef c hc)
        rw [hnum] at h133
        have hT := hT (by omega)
        have hl0 : ¬ 0 < (l.length : Int) := by omega
        have hk0 : ¬ 0 < (ks.length : Int) := by rw [hu3]; simp
        repeat' first | refine w_op rfl rfl ?_ | refine x_p rfl ?_ | refine w_sr ?_ | refine st_nil ?_ | refine w_seq ?_ | refine st_region ?_ | refine st_block ?_ | refine w_cond ?_ | refine b_t ?_ | refine b_f ?_ | refine st_skip ?_ | refine st_exit ?_ | refine st_ret ?_ | refine st_onNormN ?_ | refine st_onNormE ?_ | refine st_onNormR ?_ | refine st_onExitN ?_ | refine st_onExitR ?_ | refine st_onExitS ?_ | refine st_onExitO (by decide) ?_ | refine g_t ?_ | refine g_f rfl ?_ | refine o_op rfl ?_ | refine w_wr ?_ | refine w_wn ?_ | refine d_c rfl ?_ | refine d_on rfl ?_ | refine d_op rfl ?_ | refine d_y ?_ | refine d_gd rfl ?_ | refine d_t ?_ | refine d_f ?_ | refine d_nil ?_ | refine w_u false ?_ | refine w_dr rfl ?_ | refine d_q ?_ | refine n_0 rfl ?_ | refine d_n ?_ | refine k_p rfl rfl rfl rfl (h133) ?_ | refine w_gd rfl ?_ | ((first | refine zE1 ?_ | refine w_cl rfl rfl ?_ | refine o_cl rfl ?_ | refine d_cl rfl ?_); (conv => arg 1; try simp only [go_sem, Nat.reduceEqDiff, reduceIte, Nat.reduceAdd, Nat.reduceLeDiff, Nat.reduceMul, Int.reduceEq, Int.reduceLT, Int.reduceLE, Int.reduceNeg, Int.reduceAdd, Int.reduceSub, Nat.reduceLT, Nat.reduceBEq, Nat.reduceSub, Nat.reducePow, t1, t3, t4, q0, hge, hlong, hlong2, fillA, hT, hl0, hk0]); first | refine zE3 ?_ | refine zE2 ?_ | refine zE4 ?_ | refine zE5 ?_ | refine zE6 ?_ | refine zE7 ?_ | refine zE8 ?_) | (refine b_s (fun hb => ?_) (fun hb => ?_) <;> ((try simp only [hn1, hn2, hn3, hn4] at hb); first | (exfalso; omega) | skip)) | (first | refine g_s (fun hb => ?_) (fun hb => ?_) | refine d_s (fun hb => ?_) (fun hb => ?_)) <;> ((try simp only [hn1, hn2] at hb); rw [hb]; try simp only [hn3, hn4] at hb)
        refine Gc_loop_inv (fun m st => ∃ i : Nat, 1 ≤ i ∧ m = ks.length - i ∧ st.T 1 = .ptr 0 0 ∧ st.T 5 = .sc (.int .i64 i) ∧ st.h 0 = some (.cells [.sc (.int .i64 3), .sc (.bool ng), .psl (u32s cf) cf.length, .sc (.int .i64 ex), .sc (.string t), .psl (encs l) l.length, .psl (strs ks) ks.length] 0 false)) ?_ _ _ ⟨1, by omega, rfl, ?_⟩
        · rintro m ⟨T, h, n⟩ ⟨i, hi1, rfl, t1, t5, q0⟩
          simp only at t1 t5 q0
          by_cases hil : i < ks.length
          · have hlt : (i : Int) < (ks.length : Int) := by omega
            have hil' : i - 1 < ks.length := by omega
            obtain ⟨kx, hkx⟩ : ∃ kx, ks[i]? = some kx := ⟨ks[i]'hil, List.getElem?_eq_getElem hil⟩
            obtain ⟨kp, hkp⟩ : ∃ kp, ks[i - 1]? = some kp := ⟨ks[i - 1]'hil', List.getElem?_eq_getElem hil'⟩
            have hsl : (Op.bytesLess kx.toList kp.toList || kx.toList == kp.toList) = false := by
              have e : ks = ks.take (i - 1) ++ kp :: kx :: ks.drop (i + 1) := by
                have e1 : ks.drop (i - 1) = kp :: ks.drop i := by
                  rw [List.getElem?_eq_some_iff] at hkp
                  obtain ⟨h1, h2⟩ := hkp
                  rw [List.drop_eq_getElem_cons h1, h2, show i - 1 + 1 = i by omega]
                have e2 : ks.drop i = kx :: ks.drop (i + 1) := by
                  rw [List.getElem?_eq_some_iff] at hkx
                  obtain ⟨h1, h2⟩ := hkx
                  rw [List.drop_eq_getElem_cons h1, h2]
                rw [← e2, ← e1, List.take_append_drop]
              rw [e] at hri
              exact rise_at hri
            have hx : (strs ks)[i * 1]? = some (.sc (.string kx)) := by simp [strs, hkx]
            have hp : (strs ks)[(i - 1) * 1]? = some (.sc (.string kp)) := by simp [strs, hkp]
            have w1 : IntKind.i64.wrap ((i : Int) + 1) = ((i + 1 : Nat) : Int) := by rw [i64 (by omega) (by omega)]; omega
            have w2 : IntKind.i64.wrap ((i : Int) - 1) = ((i - 1 : Nat) : Int) := by rw [i64 (by omega) (by omega)]; omega
            repeat' first | refine w_op rfl rfl ?_ | refine x_p rfl ?_ | refine w_sr ?_ | refine st_nil ?_ | refine w_seq ?_ | refine st_region ?_ | refine st_block ?_ | refine w_cond ?_ | refine b_t ?_ | refine b_f ?_ | refine st_skip ?_ | refine st_exit ?_ | refine st_ret ?_ | refine st_onNormN ?_ | refine st_onNormE ?_ | refine st_onNormR ?_ | refine st_onExitN ?_ | refine st_onExitR ?_ | refine st_onExitS ?_ | refine st_onExitO (by decide) ?_ | refine g_t ?_ | refine g_f rfl ?_ | refine o_op rfl ?_ | refine w_wr ?_ | refine w_wn ?_ | refine d_c rfl ?_ | refine d_on rfl ?_ | refine d_op rfl ?_ | refine d_y ?_ | refine d_gd rfl ?_ | refine d_t ?_ | refine d_f ?_ | refine d_nil ?_ | refine w_u false ?_ | refine w_dr rfl ?_ | refine d_q ?_ | refine w_gd rfl ?_ | ((first | refine zE1 ?_); (conv => arg 1; try simp only [go_sem, Nat.reduceEqDiff, reduceIte, Nat.reduceAdd, Nat.reduceLeDiff, Nat.reduceMul, Int.reduceEq, Int.reduceLT, Int.reduceLE, Int.reduceNeg, Int.reduceAdd, Int.reduceSub, Nat.reduceLT, Nat.reduceBEq, Nat.reduceSub, Nat.reducePow, t1, t5, q0, hlt, hil, hil', hx, hp, hsl, w1, w2]); first | refine zE3 ?_ | refine zE2 ?_ | refine zE4 ?_ | refine zE5 ?_ | refine zE6 ?_ | refine zE7 ?_ | refine zE8 ?_) | (refine b_s (fun hb => ?_) (fun hb => ?_) <;> ((try simp only [hn1, hn2, hn3, hn4] at hb); first | (exfalso; omega) | skip)) | (first | refine g_s (fun hb => ?_) (fun hb => ?_) | refine d_s (fun hb => ?_) (fun hb => ?_)) <;> ((try simp only [hn1, hn2] at hb); rw [hb]; try simp only [hn3, hn4] at hb)
            refine ⟨ks.length - (i + 1), by omega, i + 1, by omega, rfl, ?_, ?_, q0⟩
            all_goals simp [upd_ap, tAt, t1]
          · have hge : ¬ (i : Int) < (ks.length : Int) := by omega
            repeat' first | refine w_op rfl rfl ?_ | refine x_p rfl ?_ | refine w_sr ?_ | refine st_nil ?_ | refine w_seq ?_ | refine st_region ?_ | refine st_block ?_ | refine w_cond ?_ | refine b_t ?_ | refine b_f ?_ | refine st_skip ?_ | refine st_exit ?_ | refine st_ret ?_ | refine st_onNormN ?_ | refine st_onNormE ?_ | refine st_onNormR ?_ | refine st_onExitN ?_ | refine st_onExitR ?_ | refine st_onExitS ?_ | refine st_onExitO (by decide) ?_ | refine g_t ?_ | refine g_f rfl ?_ | refine o_op rfl ?_ | refine w_wr ?_ | refine w_wn ?_ | refine d_c rfl ?_ | refine d_on rfl ?_ | refine d_op rfl ?_ | refine d_y ?_ | refine d_gd rfl ?_ | refine d_t ?_ | refine d_f ?_ | refine d_nil ?_ | refine w_u false ?_ | refine w_dr rfl ?_ | refine d_q ?_ | refine w_gd rfl ?_ | ((first | refine zE1 ?_); (conv => arg 1; try simp only [go_sem, Nat.reduceEqDiff, reduceIte, Nat.reduceAdd, Nat.reduceLeDiff, Nat.reduceMul, Int.reduceEq, Int.reduceLT, Int.reduceLE, Int.reduceNeg, Int.reduceAdd, Int.reduceSub, Nat.reduceLT, Nat.reduceBEq, Nat.reduceSub, Nat.reducePow, t1, t5, q0, hge]); first | refine zE3 ?_ | refine zE2 ?_ | refine zE4 ?_ | refine zE5 ?_ | refine zE6 ?_ | refine zE7 ?_ | refine zE8 ?_) | (refine b_s (fun hb => ?_) (fun hb => ?_) <;> ((try simp only [hn1, hn2, hn3, hn4] at hb); first | (exfalso; omega) | skip)) | (first | refine g_s (fun hb => ?_) (fun hb => ?_) | refine d_s (fun hb => ?_) (fun hb => ?_)) <;> ((try simp only [hn1, hn2] at hb); rw [hb]; try simp only [hn3, hn4] at hb)
            simp only [one1, frz_s, Option.map_some]
        · simp [upd_ap, t1, q0]
      · rw [hz (by omega)] at h48
        have hl0 : ¬ 0 < (l.length : Int) := by omega
        have hk0 : ¬ 0 < (ks.length : Int) := by rw [hu3]; simp
        repeat' first | refine w_op rfl rfl ?_ | refine x_p rfl ?_ | refine w_sr ?_ | refine st_nil ?_ | refine w_seq ?_ | refine st_region ?_ | refine st_block ?_ | refine w_cond ?_ | refine b_t ?_ | refine b_f ?_ | refine st_skip ?_ | refine st_exit ?_ | refine st_ret ?_ | refine st_onNormN ?_ | refine st_onNormE ?_ | refine st_onNormR ?_ | refine st_onExitN ?_ | refine st_onExitR ?_ | refine st_onExitS ?_ | refine st_onExitO (by decide) ?_ | refine g_t ?_ | refine g_f rfl ?_ | refine o_op rfl ?_ | refine w_wr ?_ | refine w_wn ?_ | refine d_c rfl ?_ | refine d_on rfl ?_ | refine d_op rfl ?_ | refine d_y ?_ | refine d_gd rfl ?_ | refine d_t ?_ | refine d_f ?_ | refine d_nil ?_ | refine w_u false ?_ | refine w_dr rfl ?_ | refine d_q ?_ | refine n_0 rfl ?_ | refine d_n ?_ | refine k_z rfl ?_ | refine z_f rfl rfl (h48) rfl ?_ | refine z_g rfl rfl (h48) rfl ?_ | refine d_m (Nat.le_refl _) ?_ | refine w_gd rfl ?_ | ((first | refine zE1 ?_ | refine w_cl rfl rfl ?_ | refine o_cl rfl ?_ | refine d_cl rfl ?_); (conv => arg 1; try simp only [go_sem, Nat.reduceEqDiff, reduceIte, Nat.reduceAdd, Nat.reduceLeDiff, Nat.reduceMul, Int.reduceEq, Int.reduceLT, Int.reduceLE, Int.reduceNeg, Int.reduceAdd, Int.reduceSub, Nat.reduceLT, Nat.reduceBEq, Nat.reduceSub, Nat.reducePow, t1, t3, t4, q0, hge, hlong, hlong2, fillA, hl0, hk0]); first | refine zE3 ?_ | refine zE2 ?_ | refine zE4 ?_ | refine zE5 ?_ | refine zE6 ?_ | refine zE7 ?_ | refine zE8 ?_) | (refine b_s (fun hb => ?_) (fun hb => ?_) <;> ((try simp only [hn1, hn2, hn3, hn4] at hb); first | (exfalso; omega) | skip)) | (first | refine g_s (fun hb => ?_) (fun hb => ?_) | refine d_s (fun hb => ?_) (fun hb => ?_)) <;> ((try simp only [hn1, hn2] at hb); rw [hb]; try simp only [hn3, hn4] at hb)
        refine Gc_loop_inv (fun m st => ∃ i : Nat, 1 ≤ i ∧ m = ks.length - i ∧ st.T 1 = .ptr 0 0 ∧ st.T 5 = .sc (.int .i64 i) ∧ st.h 0 = some (.cells [.sc (.int .i64 4), .sc (.bool ng), .psl (u32s cf) cf.length, .sc (.int .i64 ex), .sc (.string t), .psl (encs l) l.length, .psl (strs ks) ks.length] 0 false)) ?_ _ _ ⟨1, by omega, rfl, ?_⟩
        · rintro m ⟨T, h, n⟩ ⟨i, hi1, rfl, t1, t5, q0⟩
          simp only at t1 t5 q0
          by_cases hil : i < ks.length
          · have hlt : (i : Int) < (ks.length : Int) := by omega
            have hil' : i - 1 < ks.length := by omega
            obtain ⟨kx, hkx⟩ : ∃ kx, ks[i]? = some kx := ⟨ks[i]'hil, List.getElem?_eq_getElem hil⟩
            obtain ⟨kp, hkp⟩ : ∃ kp, ks[i - 1]? = some kp := ⟨ks[i - 1]'hil', List.getElem?_eq_getElem hil'⟩
            have hsl : (Op.bytesLess kx.toList kp.toList || kx.toList == kp.toList) = false := by
              have e : ks = ks.take (i - 1) ++ kp :: kx :: ks.drop (i + 1) := by
                have e1 : ks.drop (i - 1) = kp :: ks.drop i := by
                  rw [List.getElem?_eq_some_iff] at hkp
                  obtain ⟨h1, h2⟩ := hkp
                  rw [List.drop_eq_getElem_cons h1, h2, show i - 1 + 1 = i by omega]
                have e2 : ks.drop i = kx :: ks.drop (i + 1) := by
                  rw [List.getElem?_eq_some_iff] at hkx
                  obtain ⟨h1, h2⟩ := hkx
                  rw [List.drop_eq_getElem_cons h1, h2]
                rw [← e2, ← e1, List.take_append_drop]
              rw [e] at hri
              exact rise_at hri
            have hx : (strs ks)[i * 1]? = some (.sc (.string kx)) := by simp [strs, hkx]
            have hp : (strs ks)[(i - 1) * 1]? = some (.sc (.string kp)) := by simp [strs, hkp]
            have w1 : IntKind.i64.wrap ((i : Int) + 1) = ((i + 1 : Nat) : Int) := by rw [i64 (by omega) (by omega)]; omega
            have w2 : IntKind.i64.wrap ((i : Int) - 1) = ((i - 1 : Nat) : Int) := by rw [i64 (by omega) (by omega)]; omega
            repeat' first | refine w_op rfl rfl ?_ | refine x_p rfl ?_ | refine w_sr ?_ | refine st_nil ?_ | refine w_seq ?_ | refine st_region ?_ | refine st_block ?_ | refine w_cond ?_ | refine b_t ?_ | refine b_f ?_ | refine st_skip ?_ | refine st_exit ?_ | refine st_ret ?_ | refine st_onNormN ?_ | refine st_onNormE ?_ | refine st_onNormR ?_ | refine st_onExitN ?_ | refine st_onExitR ?_ | refine st_onExitS ?_ | refine st_onExitO (by decide) ?_ | refine g_t ?_ | refine g_f rfl ?_ | refine o_op rfl ?_ | refine w_wr ?_ | refine w_wn ?_ | refine d_c rfl ?_ | refine d_on rfl ?_ | refine d_op rfl ?_ | refine d_y ?_ | refine d_gd rfl ?_ | refine d_t ?_ | refine d_f ?_ | refine d_nil ?_ | refine w_u false ?_ | refine w_dr rfl ?_ | refine d_q ?_ | refine w_gd rfl ?_ | ((first | refine zE1 ?_); (conv => arg 1; try simp only [go_sem, Nat.reduceEqDiff, reduceIte, Nat.reduceAdd, Nat.reduceLeDiff, Nat.reduceMul, Int.reduceEq, Int.reduceLT, Int.reduceLE, Int.reduceNeg, Int.reduceAdd, Int.reduceSub, Nat.reduceLT, Nat.reduceBEq, Nat.reduceSub, Nat.reducePow, t1, t5, q0, hlt, hil, hil', hx, hp, hsl, w1, w2]); first | refine zE3 ?_ | refine zE2 ?_ | refine zE4 ?_ | refine zE5 ?_ | refine zE6 ?_ | refine zE7 ?_ | refine zE8 ?_) | (refine b_s (fun hb => ?_) (fun hb => ?_) <;> ((try simp only [hn1, hn2, hn3, hn4] at hb); first | (exfalso; omega) | skip)) | (first | refine g_s (fun hb => ?_) (fun hb => ?_) | refine d_s (fun hb => ?_) (fun hb => ?_)) <;> ((try simp only [hn1, hn2] at hb); rw [hb]; try simp only [hn3, hn4] at hb)
            refine ⟨ks.length - (i + 1), by omega, i + 1, by omega, rfl, ?_, ?_, q0⟩
            all_goals simp [upd_ap, tAt, t1]
          · have hge : ¬ (i : Int) < (ks.length : Int) := by omega
            repeat' first | refine w_op rfl rfl ?_ | refine x_p rfl ?_ | refine w_sr ?_ | refine st_nil ?_ | refine w_seq ?_ | refine st_region ?_ | refine st_block ?_ | refine w_cond ?_ | refine b_t ?_ | refine b_f ?_ | refine st_skip ?_ | refine st_exit ?_ | refine st_ret ?_ | refine st_onNormN ?_ | refine st_onNormE ?_ | refine st_onNormR ?_ | refine st_onExitN ?_ | refine st_onExitR ?_ | refine st_onExitS ?_ | refine st_onExitO (by decide) ?_ | refine g_t ?_ | refine g_f rfl ?_ | refine o_op rfl ?_ | refine w_wr ?_ | refine w_wn ?_ | refine d_c rfl ?_ | refine d_on rfl ?_ | refine d_op rfl ?_ | refine d_y ?_ | refine d_gd rfl ?_ | refine d_t ?_ | refine d_f ?_ | refine d_nil ?_ | refine w_u false ?_ | refine w_dr rfl ?_ | refine d_q ?_ | refine w_gd rfl ?_ | ((first | refine zE1 ?_); (conv => arg 1; try simp only [go_sem, Nat.reduceEqDiff, reduceIte, Nat.reduceAdd, Nat.reduceLeDiff, Nat.reduceMul, Int.reduceEq, Int.reduceLT, Int.reduceLE, Int.reduceNeg, Int.reduceAdd, Int.reduceSub, Nat.reduceLT, Nat.reduceBEq, Nat.reduceSub, Nat.reducePow, t1, t5, q0, hge]); first | refine zE3 ?_ | refine zE2 ?_ | refine zE4 ?_ | refine zE5 ?_ | refine zE6 ?_ | refine zE7 ?_ | refine zE8 ?_) | (refine b_s (fun hb => ?_) (fun hb => ?_) <;> ((try simp only [hn1, hn2, hn3, hn4] at hb); first | (exfalso; omega) | skip)) | (first | refine g_s (fun hb => ?_) (fun hb => ?_) | refine d_s (fun hb => ?_) (fun hb => ?_)) <;> ((try simp only [hn1, hn2] at hb); rw [hb]; try simp only [hn3, hn4] at hb)
            simp only [one1, frz_s, Option.map_some]
        · simp [upd_ap, t1, q0]
      · rw [hz (by omega)] at h48
        have hT := hT (by omega)
        have hk0 : ¬ 0 < (ks.length : Int) := by rw [hu3]; simp
        repeat' first | refine w_op rfl rfl ?_ | refine x_p rfl ?_ | refine w_sr ?_ | refine st_nil ?_ | refine w_seq ?_ | refine st_region ?_ | refine st_block ?_ | refine w_cond ?_ | refine b_t ?_ | refine b_f ?_ | refine st_skip ?_ | refine st_exit ?_ | refine st_ret ?_ | refine st_onNormN ?_ | refine st_onNormE ?_ | refine st_onNormR ?_ | refine st_onExitN ?_ | refine st_onExitR ?_ | refine st_onExitS ?_ | refine st_onExitO (by decide) ?_ | refine g_t ?_ | refine g_f rfl ?_ | refine o_op rfl ?_ | refine w_wr ?_ | refine w_wn ?_ | refine d_c rfl ?_ | refine d_on rfl ?_ | refine d_op rfl ?_ | refine d_y ?_ | refine d_gd rfl ?_ | refine d_t ?_ | refine d_f ?_ | refine d_nil ?_ | refine w_u false ?_ | refine w_dr rfl ?_ | refine d_q ?_ | refine n_0 rfl ?_ | refine d_n ?_ | refine k_z rfl ?_ | refine z_f rfl rfl (h48) rfl ?_ | refine z_g rfl rfl (h48) rfl ?_ | refine d_m (Nat.le_refl _) ?_ | refine w_gd rfl ?_ | ((first | refine zE1 ?_ | refine w_cl rfl rfl ?_ | refine o_cl rfl ?_ | refine d_cl rfl ?_); (conv => arg 1; try simp only [go_sem, Nat.reduceEqDiff, reduceIte, Nat.reduceAdd, Nat.reduceLeDiff, Nat.reduceMul, Int.reduceEq, Int.reduceLT, Int.reduceLE, Int.reduceNeg, Int.reduceAdd, Int.reduceSub, Nat.reduceLT, Nat.reduceBEq, Nat.reduceSub, Nat.reducePow, t1, t3, t4, q0, hge, hlong, hlong2, fillA, hT, hk0]); first | refine zE3 ?_ | refine zE2 ?_ | refine zE4 ?_ | refine zE5 ?_ | refine zE6 ?_ | refine zE7 ?_ | refine zE8 ?_) | (refine b_s (fun hb => ?_) (fun hb => ?_) <;> ((try simp only [hn1, hn2, hn3, hn4] at hb); first | (exfalso; omega) | skip)) | (first | refine g_s (fun hb => ?_) (fun hb => ?_) | refine d_s (fun hb => ?_) (fun hb => ?_)) <;> ((try simp only [hn1, hn2] at hb); rw [hb]; try simp only [hn3, hn4] at hb)
        refine Gc_loop_inv (fun m st => ∃ i : Nat, 1 ≤ i ∧ m = ks.length - i ∧ st.T 1 = .ptr 0 0 ∧ st.T 5 = .sc (.int .i64 i) ∧ st.h 0 = some (.cells [.sc (.int .i64 5), .sc (.bool ng), .psl (u32s cf) cf.length, .sc (.int .i64 ex), .sc (.string t), .psl (encs l) l.length, .psl (strs ks) ks.length] 0 false)) ?_ _ _ ⟨1, by omega, rfl, ?_⟩
        · rintro m ⟨T, h, n⟩ ⟨i, hi1, rfl, t1, t5, q0⟩
          simp only at t1 t5 q0
          by_cases hil : i < ks.length
          · have hlt : (i : Int) < (ks.length : Int) := by omega
            have hil' : i - 1 < ks.length := by omega
            obtain ⟨kx, hkx⟩ : ∃ kx, ks[i]? = some kx := ⟨ks[i]'hil, List.getElem?_eq_getElem hil⟩
            obtain ⟨kp, hkp⟩ : ∃ kp, ks[i - 1]? = some kp := ⟨ks[i - 1]'hil', List.getElem?_eq_getElem hil'⟩
            have hsl : (Op.bytesLess kx.toList kp.toList || kx.toList == kp.toList) = false := by
              have e : ks = ks.take (i - 1) ++ kp :: kx :: ks.drop (i + 1) := by
                have e1 : ks.drop (i - 1) = kp :: ks.drop i := by
                  rw [List.getElem?_eq_some_iff] at hkp
                  obtain ⟨h1, h2⟩ := hkp
                  rw [List.drop_eq_getElem_cons h1, h2, show i - 1 + 1 = i by omega]
                have e2 : ks.drop i = kx :: ks.drop (i + 1) := by
                  rw [List.getElem?_eq_some_iff] at hkx
                  obtain ⟨h1, h2⟩ := hkx
                  rw [List.drop_eq_getElem_cons h1, h2]
                rw [← e2, ← e1, List.take_append_drop]
              rw [e] at hri
              exact rise_at hri
            have hx : (strs ks)[i * 1]? = some (.sc (.string kx)) := by simp [strs, hkx]
            have hp : (strs ks)[(i - 1) * 1]? = some (.sc (.string kp)) := by simp [strs, hkp]
            have w1 : IntKind.i64.wrap ((i : Int) + 1) = ((i + 1 : Nat) : Int) := by rw [i64 (by omega) (by omega)]; omega
            have w2 : IntKind.i64.wrap ((i : Int) - 1) = ((i - 1 : Nat) : Int) := by rw [i64 (by omega) (by omega)]; omega
            repeat' first | refine w_op rfl rfl ?_ | refine x_p rfl ?_ | refine w_sr ?_ | refine st_nil ?_ | refine w_seq ?_ | refine st_region ?_ | refine st_block ?_ | refine w_cond ?_ | refine b_t ?_ | refine b_f ?_ | refine st_skip ?_ | refine st_exit ?_ | refine st_ret ?_ | refine st_onNormN ?_ | refine st_onNormE ?_ | refine st_onNormR ?_ | refine st_onExitN ?_ | refine st_onExitR ?_ | refine st_onExitS ?_ | refine st_onExitO (by decide) ?_ | refine g_t ?_ | refine g_f rfl ?_ | refine o_op rfl ?_ | refine w_wr ?_ | refine w_wn ?_ | refine d_c rfl ?_ | refine d_on rfl ?_ | refine d_op rfl ?_ | refine d_y ?_ | refine d_gd rfl ?_ | refine d_t ?_ | refine d_f ?_ | refine d_nil ?_ | refine w_u false ?_ | refine w_dr rfl ?_ | refine d_q ?_ | refine w_gd rfl ?_ | ((first | refine zE1 ?_); (conv => arg 1; try simp only [go_sem, Nat.reduceEqDiff, reduceIte, Nat.reduceAdd, Nat.reduceLeDiff, Nat.reduceMul, Int.reduceEq, Int.reduceLT, Int.reduceLE, Int.reduceNeg, Int.reduceAdd, Int.reduceSub, Nat.reduceLT, Nat.reduceBEq, Nat.reduceSub, Nat.reducePow, t1, t5, q0, hlt, hil, hil', hx, hp, hsl, w1, w2]); first | refine zE3 ?_ | refine zE2 ?_ | refine zE4 ?_ | refine zE5 ?_ | refine zE6 ?_ | refine zE7 ?_ | refine zE8 ?_) | (refine b_s (fun hb => ?_) (fun hb => ?_) <;> ((try simp only [hn1, hn2, hn3, hn4] at hb); first | (exfalso; omega) | skip)) | (first | refine g_s (fun hb => ?_) (fun hb => ?_) | refine d_s (fun hb => ?_) (fun hb => ?_)) <;> ((try simp only [hn1, hn2] at hb); rw [hb]; try simp only [hn3, hn4] at hb)
            refine ⟨ks.length - (i + 1), by omega, i + 1, by omega, rfl, ?_, ?_, q0⟩
            all_goals simp [upd_ap, tAt, t1]
          · have hge : ¬ (i : Int) < (ks.length : Int) := by omega
            repeat' first | refine w_op rfl rfl ?_ | refine x_p rfl ?_ | refine w_sr ?_ | refine st_nil ?_ | refine w_seq ?_ | refine st_region ?_ | refine st_block ?_ | refine w_cond ?_ | refine b_t ?_ | refine b_f ?_ | refine st_skip ?_ | refine st_exit ?_ | refine st_ret ?_ | refine st_onNormN ?_ | refine st_onNormE ?_ | refine st_onNormR ?_ | refine st_onExitN ?_ | refine st_onExitR ?_ | refine st_onExitS ?_ | refine st_onExitO (by decide) ?_ | refine g_t ?_ | refine g_f rfl ?_ | refine o_op rfl ?_ | refine w_wr ?_ | refine w_wn ?_ | refine d_c rfl ?_ | refine d_on rfl ?_ | refine d_op rfl ?_ | refine d_y ?_ | refine d_gd rfl ?_ | refine d_t ?_ | refine d_f ?_ | refine d_nil ?_ | refine w_u false ?_ | refine w_dr rfl ?_ | refine d_q ?_ | refine w_gd rfl ?_ | ((first | refine zE1 ?_); (conv => arg 1; try simp only [go_sem, Nat.reduceEqDiff, reduceIte, Nat.reduceAdd, Nat.reduceLeDiff, Nat.reduceMul, Int.reduceEq, Int.reduceLT, Int.reduceLE, Int.reduceNeg, Int.reduceAdd, Int.reduceSub, Nat.reduceLT, Nat.reduceBEq, Nat.reduceSub, Nat.reducePow, t1, t5, q0, hge]); first | refine zE3 ?_ | refine zE2 ?_ | refine zE4 ?_ | refine zE5 ?_ | refine zE6 ?_ | refine zE7 ?_ | refine zE8 ?_) | (refine b_s (fun hb => ?_) (fun hb => ?_) <;> ((try simp only [hn1, hn2, hn3, hn4] at hb); first | (exfalso; omega) | skip)) | (first | refine g_s (fun hb => ?_) (fun hb => ?_) | refine d_s (fun hb => ?_) (fun hb => ?_)) <;> ((try simp only [hn1, hn2] at hb); rw [hb]; try simp only [hn3, hn4] at hb)
            simp only [one1, frz_s, Option.map_some]
        · simp [upd_ap, t1, q0]
      · rw [hz (by omega)] at h48
        have hT := hT (by omega)
        have hlk : ((ks.length : Int) = (l.length : Int)) = True := by rw [hu3]; simp
        repeat' first | refine w_op rfl rfl ?_ | refine x_p rfl ?_ | refine w_sr ?_ | refine st_nil ?_ | refine w_seq ?_ | refine st_region ?_ | refine st_block ?_ | refine w_cond ?_ | refine b_t ?_ | refine b_f ?_ | refine st_skip ?_ | refine st_exit ?_ | refine st_ret ?_ | refine st_onNormN ?_ | refine st_onNormE ?_ | refine st_onNormR ?_ | refine st_onExitN ?_ | refine st_onExitR ?_ | refine st_onExitS ?_ | refine st_onExitO (by decide) ?_ | refine g_t ?_ | refine g_f rfl ?_ | refine o_op rfl ?_ | refine w_wr ?_ | refine w_wn ?_ | refine d_c rfl ?_ | refine d_on rfl ?_ | refine d_op rfl ?_ | refine d_y ?_ | refine d_gd rfl ?_ | refine d_t ?_ | refine d_f ?_ | refine d_nil ?_ | refine w_u false ?_ | refine w_dr rfl ?_ | refine d_q ?_ | refine n_0 rfl ?_ | refine d_n ?_ | refine k_z rfl ?_ | refine z_f rfl rfl (h48) rfl ?_ | refine z_g rfl rfl (h48) rfl ?_ | refine d_m (Nat.le_refl _) ?_ | refine w_gd rfl ?_ | ((first | refine zE1 ?_ | refine w_cl rfl rfl ?_ | refine o_cl rfl ?_ | refine d_cl rfl ?_); (conv => arg 1; try simp only [go_sem, Nat.reduceEqDiff, reduceIte, Nat.reduceAdd, Nat.reduceLeDiff, Nat.reduceMul, Int.reduceEq, Int.reduceLT, Int.reduceLE, Int.reduceNeg, Int.reduceAdd, Int.reduceSub, Nat.reduceLT, Nat.reduceBEq, Nat.reduceSub, Nat.reducePow, t1, t3, t4, q0, hge, hlong, hlong2, fillA, hT, hlk]); first | refine zE3 ?_ | refine zE2 ?_ | refine zE4 ?_ | refine zE5 ?_ | refine zE6 ?_ | refine zE7 ?_ | refine zE8 ?_) | (refine b_s (fun hb => ?_) (fun hb => ?_) <;> ((try simp only [hn1, hn2, hn3, hn4] at hb); first | (exfalso; omega) | skip)) | (first | refine g_s (fun hb => ?_) (fun hb => ?_) | refine d_s (fun hb => ?_) (fun hb => ?_)) <;> ((try simp only [hn1, hn2] at hb); rw [hb]; try simp only [hn3, hn4] at hb)
        refine Gc_loop_inv (fun m st => ∃ i : Nat, 1 ≤ i ∧ m = ks.length - i ∧ st.T 1 = .ptr 0 0 ∧ st.T 5 = .sc (.int .i64 i) ∧ st.h 0 = some (.cells [.sc (.int .i64 6), .sc (.bool ng), .psl (u32s cf) cf.length, .sc (.int .i64 ex), .sc (.string t), .psl (encs l) l.length, .psl (strs ks) ks.length] 0 false)) ?_ _ _ ⟨1, by omega, rfl, ?_⟩
        · rintro m ⟨T, h, n⟩ ⟨i, hi1, rfl, t1, t5, q0⟩
          simp only at t1 t5 q0
          by_cases hil : i < ks.length
          · have hlt : (i : Int) < (ks.length : Int) := by omega
            have hil' : i - 1 < ks.length := by omega
            obtain ⟨kx, hkx⟩ : ∃ kx, ks[i]? = some kx := ⟨ks[i]'hil, List.getElem?_eq_getElem hil⟩
            obtain ⟨kp, hkp⟩ : ∃ kp, ks[i - 1]? = some kp := ⟨ks[i - 1]'hil', List.getElem?_eq_getElem hil'⟩
            have hsl : (Op.bytesLess kx.toList kp.toList || kx.toList == kp.toList) = false := by
              have e : ks = ks.take (i - 1) ++ kp :: kx :: ks.drop (i + 1) := by
                have e1 : ks.drop (i - 1) = kp :: ks.drop i := by
                  rw [List.getElem?_eq_some_iff] at hkp
                  obtain ⟨h1, h2⟩ := hkp
                  rw [List.drop_eq_getElem_cons h1, h2, show i - 1 + 1 = i by omega]
                have e2 : ks.drop i = kx :: ks.drop (i + 1) := by
                  rw [List.getElem?_eq_some_iff] at hkx
                  obtain ⟨h1, h2⟩ := hkx
                  rw [List.drop_eq_getElem_cons h1, h2]
                rw [← e2, ← e1, List.take_append_drop]
              rw [e] at hri
              exact rise_at hri
            have hx : (strs ks)[i * 1]? = some (.sc (.string kx)) := by simp [strs, hkx]
            have hp : (strs ks)[(i - 1) * 1]? = some (.sc (.string kp)) := by simp [strs, hkp]
            have w1 : IntKind.i64.wrap ((i : Int) + 1) = ((i + 1 : Nat) : Int) := by rw [i64 (by omega) (by omega)]; omega
            have w2 : IntKind.i64.wrap ((i : Int) - 1) = ((i - 1 : Nat) : Int) := by rw [i64 (by omega) (by omega)]; omega
            repeat' first | refine w_op rfl rfl ?_ | refine x_p rfl ?_ | refine w_sr ?_ | refine st_nil ?_ | refine w_seq ?_ | refine st_region ?_ | refine st_block ?_ | refine w_cond ?_ | refine b_t ?_ | refine b_f ?_ | refine st_skip ?_ | refine st_exit ?_ | refine st_ret ?_ | refine st_onNormN ?_ | refine st_onNormE ?_ | refine st_onNormR ?_ | refine st_onExitN ?_ | refine st_onExitR ?_ | refine st_onExitS ?_ | refine st_onExitO (by decide) ?_ | refine g_t ?_ | refine g_f rfl ?_ | refine o_op rfl ?_ | refine w_wr ?_ | refine w_wn ?_ | refine d_c rfl ?_ | refine d_on rfl ?_ | refine d_op rfl ?_ | refine d_y ?_ | refine d_gd rfl ?_ | refine d_t ?_ | refine d_f ?_ | refine d_nil ?_ | refine w_u false ?_ | refine w_dr rfl ?_ | refine d_q ?_ | refine w_gd rfl ?_ | ((first | refine zE1 ?_); (conv => arg 1; try simp only [go_sem, Nat.reduceEqDiff, reduceIte, Nat.reduceAdd, Nat.reduceLeDiff, Nat.reduceMul, Int.reduceEq, Int.reduceLT, Int.reduceLE, Int.reduceNeg, Int.reduceAdd, Int.reduceSub, Nat.reduceLT, Nat.reduceBEq, Nat.reduceSub, Nat.reducePow, t1, t5, q0, hlt, hil, hil', hx, hp, hsl, w1, w2]); first | refine zE3 ?_ | refine zE2 ?_ | refine zE4 ?_ | refine zE5 ?_ | refine zE6 ?_ | refine zE7 ?_ | refine zE8 ?_) | (refine b_s (fun hb => ?_) (fun hb => ?_) <;> ((try simp only [hn1, hn2, hn3, hn4] at hb); first | (exfalso; omega) | skip)) | (first | refine g_s (fun hb => ?_) (fun hb => ?_) | refine d_s (fun hb => ?_) (fun hb => ?_)) <;> ((try simp only [hn1, hn2] at hb); rw [hb]; try simp only [hn3, hn4] at hb)
            refine ⟨ks.length - (i + 1), by omega, i + 1, by omega, rfl, ?_, ?_, q0⟩
            all_goals simp [upd_ap, tAt, t1]
          · have hge : ¬ (i : Int) < (ks.length : Int) := by omega
            repeat' first | refine w_op rfl rfl ?_ | refine x_p rfl ?_ | refine w_sr ?_ | refine st_nil ?_ | refine w_seq ?_ | refine st_region ?_ | refine st_block ?_ | refine w_cond ?_ | refine b_t ?_ | refine b_f ?_ | refine st_skip ?_ | refine st_exit ?_ | refine st_ret ?_ | refine st_onNormN ?_ | refine st_onNormE ?_ | refine st_onNormR ?_ | refine st_onExitN ?_ | refine st_onExitR ?_ | refine st_onExitS ?_ | refine st_onExitO (by decide) ?_ | refine g_t ?_ | refine g_f rfl ?_ | refine o_op rfl ?_ | refine w_wr ?_ | refine w_wn ?_ | refine d_c rfl ?_ | refine d_on rfl ?_ | refine d_op rfl ?_ | refine d_y ?_ | refine d_gd rfl ?_ | refine d_t ?_ | refine d_f ?_ | refine d_nil ?_ | refine w_u false ?_ | refine w_dr rfl ?_ | refine d_q ?_ | refine w_gd rfl ?_ | ((first | refine zE1 ?_); (conv => arg 1; try simp only [go_sem, Nat.reduceEqDiff, reduceIte, Nat.reduceAdd, Nat.reduceLeDiff, Nat.reduceMul, Int.reduceEq, Int.reduceLT, Int.reduceLE, Int.reduceNeg, Int.reduceAdd, Int.reduceSub, Nat.reduceLT, Nat.reduceBEq, Nat.reduceSub, Nat.reducePow, t1, t5, q0, hge]); first | refine zE3 ?_ | refine zE2 ?_ | refine zE4 ?_ | refine zE5 ?_ | refine zE6 ?_ | refine zE7 ?_ | refine zE8 ?_) | (refine b_s (fun hb => ?_) (fun hb => ?_) <;> ((try simp only [hn1, hn2, hn3, hn4] at hb); first | (exfalso; omega) | skip)) | (first | refine g_s (fun hb => ?_) (fun hb => ?_) | refine d_s (fun hb => ?_) (fun hb => ?_)) <;> ((try simp only [hn1, hn2] at hb); rw [hb]; try simp only [hn3, hn4] at hb)
            simp only [one1, frz_s, Option.map_some]
        · simp [upd_ap, t1, q0]
      · rw [hz (by omega)] at h48
        have hT := hT (by omega)
        have n3 : ¬ k = 3 := by omega
        have n4 : ¬ k = 4 := by omega
        have n5 : k < 5 := by omega
        have n6 : ¬ k = 6 := by omega
        have hl0 : ¬ 0 < (l.length : Int) := by omega
        have hk0 : ¬ 0 < (ks.length : Int) := by rw [hu3, if_neg n6]; simp
        repeat' first | refine w_op rfl rfl ?_ | refine x_p rfl ?_ | refine w_sr ?_ | refine st_nil ?_ | refine w_seq ?_ | refine st_region ?_ | refine st_block ?_ | refine w_cond ?_ | refine b_t ?_ | refine b_f ?_ | refine st_skip ?_ | refine st_exit ?_ | refine st_ret ?_ | refine st_onNormN ?_ | refine st_onNormE ?_ | refine st_onNormR ?_ | refine st_onExitN ?_ | refine st_onExitR ?_ | refine st_onExitS ?_ | refine st_onExitO (by decide) ?_ | refine g_t ?_ | refine g_f rfl ?_ | refine o_op rfl ?_ | refine w_wr ?_ | refine w_wn ?_ | refine d_c rfl ?_ | refine d_on rfl ?_ | refine d_op rfl ?_ | refine d_y ?_ | refine d_gd rfl ?_ | refine d_t ?_ | refine d_f ?_ | refine d_nil ?_ | refine w_u false ?_ | refine w_dr rfl ?_ | refine d_q ?_ | refine n_0 rfl ?_ | refine d_n ?_ | refine k_z rfl ?_ | refine z_f rfl rfl (h48) rfl ?_ | refine z_g rfl rfl (h48) rfl ?_ | refine d_m (Nat.le_refl _) ?_ | refine w_gd rfl ?_ | ((first | refine zE1 ?_ | refine w_cl rfl rfl ?_ | refine o_cl rfl ?_ | refine d_cl rfl ?_); (conv => arg 1; try simp only [go_sem, Nat.reduceEqDiff, reduceIte, Nat.reduceAdd, Nat.reduceLeDiff, Nat.reduceMul, Int.reduceEq, Int.reduceLT, Int.reduceLE, Int.reduceNeg, Int.reduceAdd, Int.reduceSub, Nat.reduceLT, Nat.reduceBEq, Nat.reduceSub, Nat.reducePow, t1, t3, t4, q0, hge, hlong, hlong2, fillA, hT, n3, n4, n5, n6, hl0, hk0]); first | refine zE3 ?_ | refine zE2 ?_ | refine zE4 ?_ | refine zE5 ?_ | refine zE6 ?_ | refine zE7 ?_ | refine zE8 ?_) | (refine b_s (fun hb => ?_) (fun hb => ?_) <;> ((try simp only [hn1, hn2, hn3, hn4] at hb); first | (exfalso; omega) | skip)) | (first | refine g_s (fun hb => ?_) (fun hb => ?_) | refine d_s (fun hb => ?_) (fun hb => ?_)) <;> ((try simp only [hn1, hn2] at hb); rw [hb]; try simp only [hn3, hn4] at hb)
        refine Gc_loop_inv (fun m st => ∃ i : Nat, 1 ≤ i ∧ m = ks.length - i ∧ st.T 1 = .ptr 0 0 ∧ st.T 5 = .sc (.int .i64 i) ∧ st.h 0 = some (.cells [.sc (.int .i64 k), .sc (.bool ng), .psl (u32s cf) cf.length, .sc (.int .i64 ex), .sc (.string t), .psl (encs l) l.length, .psl (strs ks) ks.length] 0 false)) ?_ _ _ ⟨1, by omega, rfl, ?_⟩
        · rintro m ⟨T, h, n⟩ ⟨i, hi1, rfl, t1, t5, q0⟩
          simp only at t1 t5 q0
          by_cases hil : i < ks.length
          · have hlt : (i : Int) < (ks.length : Int) := by omega
            have hil' : i - 1 < ks.length := by omega
            obtain ⟨kx, hkx⟩ : ∃ kx, ks[i]? = some kx := ⟨ks[i]'hil, List.getElem?_eq_getElem hil⟩
            obtain ⟨kp, hkp⟩ : ∃ kp, ks[i - 1]? = some kp := ⟨ks[i - 1]'hil', List.getElem?_eq_getElem hil'⟩
            have hsl : (Op.bytesLess kx.toList kp.toList || kx.toList == kp.toList) = false := by
              have e : ks = ks.take (i - 1) ++ kp :: kx :: ks.drop (i + 1) := by
                have e1 : ks.drop (i - 1) = kp :: ks.drop i := by
                  rw [List.getElem?_eq_some_iff] at hkp
                  obtain ⟨h1, h2⟩ := hkp
                  rw [List.drop_eq_getElem_cons h1, h2, show i - 1 + 1 = i by omega]
                have e2 : ks.drop i = kx :: ks.drop (i + 1) := by
                  rw [List.getElem?_eq_some_iff] at hkx
                  obtain ⟨h1, h2⟩ := hkx
                  rw [List.drop_eq_getElem_cons h1, h2]
                rw [← e2, ← e1, List.take_append_drop]
              rw [e] at hri
              exact rise_at hri
            have hx : (strs ks)[i * 1]? = some (.sc (.string kx)) := by simp [strs, hkx]
            have hp : (strs ks)[(i - 1) * 1]? = some (.sc (.string kp)) := by simp [strs, hkp]
            have w1 : IntKind.i64.wrap ((i : Int) + 1) = ((i + 1 : Nat) : Int) := by rw [i64 (by omega) (by omega)]; omega
            have w2 : IntKind.i64.wrap ((i : Int) - 1) = ((i - 1 : Nat) : Int) := by rw [i64 (by omega) (by omega)]; omega
            repeat' first | refine w_op rfl rfl ?_ | refine x_p rfl ?_ | refine w_sr ?_ | refine st_nil ?_ | refine w_seq ?_ | refine st_region ?_ | refine st_block ?_ | refine w_cond ?_ | refine b_t ?_ | refine b_f ?_ | refine st_skip ?_ | refine st_exit ?_ | refine st_ret ?_ | refine st_onNormN ?_ | refine st_onNormE ?_ | refine st_onNormR ?_ | refine st_onExitN ?_ | refine st_onExitR ?_ | refine st_onExitS ?_ | refine st_onExitO (by decide) ?_ | refine g_t ?_ | refine g_f rfl ?_ | refine o_op rfl ?_ | refine w_wr ?_ | refine w_wn ?_ | refine d_c rfl ?_ | refine d_on rfl ?_ | refine d_op rfl ?_ | refine d_y ?_ | refine d_gd rfl ?_ | refine d_t ?_ | refine d_f ?_ | refine d_nil ?_ | refine w_u false ?_ | refine w_dr rfl ?_ | refine d_q ?_ | refine w_gd rfl ?_ | ((first | refine zE1 ?_); (conv => arg 1; try simp only [go_sem, Nat.reduceEqDiff, reduceIte, Nat.reduceAdd, Nat.reduceLeDiff, Nat.reduceMul, Int.reduceEq, Int.reduceLT, Int.reduceLE, Int.reduceNeg, Int.reduceAdd, Int.reduceSub, Nat.reduceLT, Nat.reduceBEq, Nat.reduceSub, Nat.reducePow, t1, t5, q0, hlt, hil, hil', hx, hp, hsl, w1, w2]); first | refine zE3 ?_ | refine zE2 ?_ | refine zE4 ?_ | refine zE5 ?_ | refine zE6 ?_ | refine zE7 ?_ | refine zE8 ?_) | (refine b_s (fun hb => ?_) (fun hb => ?_) <;> ((try simp only [hn1, hn2, hn3, hn4] at hb); first | (exfalso; omega) | skip)) | (first | refine g_s (fun hb => ?_) (fun hb => ?_) | refine d_s (fun hb => ?_) (fun hb => ?_)) <;> ((try simp only [hn1, hn2] at hb); rw [hb]; try simp only [hn3, hn4] at hb)
            refine ⟨ks.length - (i + 1), by omega, i + 1, by omega, rfl, ?_, ?_, q0⟩
            all_goals simp [upd_ap, tAt, t1]
          · have hge : ¬ (i : Int) < (ks.length : Int) := by omega
            repeat' first | refine w_op rfl rfl ?_ | refine x_p rfl ?_ | refine w_sr ?_ | refine st_nil ?_ | refine w_seq ?_ | refine st_region ?_ | refine st_block ?_ | refine w_cond ?_ | refine b_t ?_ | refine b_f ?_ | refine st_skip ?_ | refine st_exit ?_ | refine st_ret ?_ | refine st_onNormN ?_ | refine st_onNormE ?_ | refine st_onNormR ?_ | refine st_onExitN ?_ | refine st_onExitR ?_ | refine st_onExitS ?_ | refine st_onExitO (by decide) ?_ | refine g_t ?_ | refine g_f rfl ?_ | refine o_op rfl ?_ | refine w_wr ?_ | refine w_wn ?_ | refine d_c rfl ?_ | refine d_on rfl ?_ | refine d_op rfl ?_ | refine d_y ?_ | refine d_gd rfl ?_ | refine d_t ?_ | refine d_f ?_ | refine d_nil ?_ | refine w_u false ?_ | refine w_dr rfl ?_ | refine d_q ?_ | refine w_gd rfl ?_ | ((first | refine zE1 ?_); (conv => arg 1; try simp only [go_sem, Nat.reduceEqDiff, reduceIte, Nat.reduceAdd, Nat.reduceLeDiff, Nat.reduceMul, Int.reduceEq, Int.reduceLT, Int.reduceLE, Int.reduceNeg, Int.reduceAdd, Int.reduceSub, Nat.reduceLT, Nat.reduceBEq, Nat.reduceSub, Nat.reducePow, t1, t5, q0, hge]); first | refine zE3 ?_ | refine zE2 ?_ | refine zE4 ?_ | refine zE5 ?_ | refine zE6 ?_ | refine zE7 ?_ | refine zE8 ?_) | (refine b_s (fun hb => ?_) (fun hb => ?_) <;> ((try simp only [hn1, hn2, hn3, hn4] at hb); first | (exfalso; omega) | skip)) | (first | refine g_s (fun hb => ?_) (fun hb => ?_) | refine d_s (fun hb => ?_) (fun hb => ?_)) <;> ((try simp only [hn1, hn2] at hb); rw [hb]; try simp only [hn3, hn4] at hb)
            simp only [one1, frz_s, Option.map_some]
        · simp [upd_ap, t1, q0]
  · simp [upd_ap, argsT]
end Go.Proofs.Bv
/-
  The reference's all, Check, Checks of values that may be.
  Conditions: none.
-/
namespace Go.Proofs.Bv
open Go
theorem ok100 : codeOk 25 (Tryz.f100.body.getD .skip) = true := by kernel_rfl
theorem ok49 : codeOk 13 (Tryz.f49.body.getD .skip) = true := by kernel_rfl
theorem ok15 : codeOk 19 (Tryz.f15.body.getD .skip) = true := by kernel_rfl
set_option maxHeartbeats 4000000 in
set_option maxRecDepth 100000 in
theorem pc100 (G : Nat → Option (List AV)) : (v : JV) → Fit v → firstErr (pre v) = 0 → Pc (Cf G) 100 [.agg (enc v)] (.sc (.int .i64 0))
  | .mk kk ng cf ex t l ks => fun hfit h0 => by
    have hnl := hfit.1.nlist
    have how : own (.mk kk ng cf ex t l ks) = 0 := by
      simp only [pre, firstErr] at h0
      split at h0
      · assumption
      · rename_i h1
        exact absurd h0 h1
    have hps : firstErr (pres l) = 0 := by
      simp only [pre, firstErr] at h0
      rw [if_pos how] at h0
      exact h0
    have ih : ∀ x ∈ l, Pc (Cf G) 100 [.agg (enc x)] (.sc (.int .i64 0)) := fun x hx => pc100 G x (Fits_mem hfit.2 x hx) (firstErr_pres l hps x hx)
    have h158 := pc158 G _ hfit how
    simp only [enc] at h158
    refine Pc_of (Gf_enter (C := Cf G) Tryz.func100 rfl ok100 (Nat.le_of_ble_eq_true rfl) ?_)
    simp only [Tryz.f100, Option.getD_some]
    simp only [enc]
    repeat' first | refine w_op rfl rfl ?_ | refine x_p rfl ?_ | refine w_sr ?_ | refine st_nil ?_ | refine w_seq ?_ | refine st_region ?_ | refine st_block ?_ | refine w_cond ?_ | refine b_t ?_ | refine b_f ?_ | refine st_skip ?_ | refine st_exit ?_ | refine st_ret ?_ | refine st_onNormN ?_ | refine st_onNormE ?_ | refine st_onNormR ?_ | refine st_onExitN ?_ | refine st_onExitR ?_ | refine st_onExitS ?_ | refine st_onExitO (by decide) ?_ | refine g_t ?_ | refine g_f rfl ?_ | refine o_op rfl ?_ | refine w_wr ?_ | refine w_wn ?_ | refine d_c rfl ?_ | refine d_on rfl ?_ | refine d_op rfl ?_ | refine d_y ?_ | refine d_gd rfl ?_ | refine d_t ?_ | refine d_f ?_ | refine d_nil ?_ | refine w_u false ?_ | refine w_dr rfl ?_ | refine d_q ?_ | refine n_0 rfl ?_ | refine d_n ?_ | refine k_p rfl rfl rfl rfl (h158) ?_ | refine w_gd rfl ?_ | ((first | refine zE1 ?_ | refine w_cl rfl rfl ?_ | refine o_cl rfl ?_ | refine d_cl rfl ?_); (conv => arg 1; try simp only [go_sem, Nat.reduceEqDiff, reduceIte, Nat.reduceAdd, Nat.reduceLeDiff, Nat.reduceMul, Int.reduceEq, Int.reduceLT, Int.reduceLE, Int.reduceNeg, Int.reduceAdd, Int.reduceSub, Nat.reduceLT, Nat.reduceBEq, Nat.reduceSub, Nat.reducePow]); first | refine zE3 ?_ | refine zE2 ?_ | refine zE4 ?_ | refine zE5 ?_ | refine zE6 ?_ | refine zE7 ?_ | refine zE8 ?_) | (refine b_s (fun hb => ?_) (fun hb => ?_) <;> ((try simp only [hn1, hn2, hn3, hn4] at hb); first | (exfalso; omega) | skip)) | (first | refine g_s (fun hb => ?_) (fun hb => ?_) | refine d_s (fun hb => ?_) (fun hb => ?_)) <;> ((try simp only [hn1, hn2] at hb); rw [hb]; try simp only [hn3, hn4] at hb)
    refine Gc_loop_inv (fun m st => ∃ d r, l = d ++ r ∧ m = r.length ∧ st.T 1 = .ptr 0 0 ∧ st.T 3 = .sc (.int .i64 0) ∧ st.T 4 = .sc (.int .i64 d.length) ∧ st.h 0 = some (.cells [.sc (.int .i64 kk), .sc (.bool ng), .psl (u32s cf) cf.length, .sc (.int .i64 ex), .sc (.string t), .psl (encs l) l.length, .psl (strs ks) ks.length] 0 false)) ?_ l.length _ ⟨[], l, rfl, rfl, ?_⟩
    · rintro m ⟨T, h, n⟩ ⟨d, r, hdr, rfl, t1, t3, t4, q0⟩
      simp only at t1 t3 t4 q0
      cases r with
      | nil =>
        have hge : ¬ (d.length : Int) < (l.length : Int) := by rw [hdr]; simp
        repeat' first | refine w_op rfl rfl ?_ | refine x_p rfl ?_ | refine w_sr ?_ | refine st_nil ?_ | refine w_seq ?_ | refine st_region ?_ | refine st_block ?_ | refine w_cond ?_ | refine b_t ?_ | refine b_f ?_ | refine st_skip ?_ | refine st_exit ?_ | refine st_ret ?_ | refine st_onNormN ?_ | refine st_onNormE ?_ | refine st_onNormR ?_ | refine st_onExitN ?_ | refine st_onExitR ?_ | refine st_onExitS ?_ | refine st_onExitO (by decide) ?_ | refine g_t ?_ | refine g_f rfl ?_ | refine o_op rfl ?_ | refine w_wr ?_ | refine w_wn ?_ | refine d_c rfl ?_ | refine d_on rfl ?_ | refine d_op rfl ?_ | refine d_y ?_ | refine d_gd rfl ?_ | refine d_t ?_ | refine d_f ?_ | refine d_nil ?_ | refine w_u false ?_ | refine w_dr rfl ?_ | refine d_q ?_ | refine w_gd rfl ?_ | ((first | refine zE1 ?_); (conv => arg 1; try simp only [go_sem, Nat.reduceEqDiff, reduceIte, Nat.reduceAdd, Nat.reduceLeDiff, Nat.reduceMul, Int.reduceEq, Int.reduceLT, Int.reduceLE, Int.reduceNeg, Int.reduceAdd, Int.reduceSub, Nat.reduceLT, Nat.reduceBEq, Nat.reduceSub, Nat.reducePow, t1, t3, t4, q0, hge]); first | refine zE3 ?_ | refine zE2 ?_ | refine zE4 ?_ | refine zE5 ?_ | refine zE6 ?_ | refine zE7 ?_ | refine zE8 ?_) | (refine b_s (fun hb => ?_) (fun hb => ?_) <;> ((try simp only [hn1, hn2, hn3, hn4] at hb); first | (exfalso; omega) | skip)) | (first | refine g_s (fun hb => ?_) (fun hb => ?_) | refine d_s (fun hb => ?_) (fun hb => ?_)) <;> ((try simp only [hn1, hn2] at hb); rw [hb]; try simp only [hn3, hn4] at hb)
        simp only [one1, frz_s, Option.map_some]
      | cons x r =>
        have hlt : (d.length : Int) < (l.length : Int) := by rw [hdr]; simp; omega
        have hltn : d.length < l.length := by omega
        have hcut : cut (encs l) (d.length * 7) 7 = enc x := by rw [hdr]; exact cut_encs d x r
        have hle : d.length * 7 + 7 ≤ (encs l).length := by rw [encs_len]; omega
        have hx := ih x (by rw [hdr]; simp)
        have w1 : IntKind.i64.wrap ((d.length : Int) + 1) = (d.length : Int) + 1 := i64 (by omega) (by omega)
        obtain ⟨k', n', c', e', t', l', ks'⟩ := x
        simp only [enc] at hx hcut
        repeat' first | refine w_op rfl rfl ?_ | refine x_p rfl ?_ | refine w_sr ?_ | refine st_nil ?_ | refine w_seq ?_ | refine st_region ?_ | refine st_block ?_ | refine w_cond ?_ | refine b_t ?_ | refine b_f ?_ | refine st_skip ?_ | refine st_exit ?_ | refine st_ret ?_ | refine st_onNormN ?_ | refine st_onNormE ?_ | refine st_onNormR ?_ | refine st_onExitN ?_ | refine st_onExitR ?_ | refine st_onExitS ?_ | refine st_onExitO (by decide) ?_ | refine g_t ?_ | refine g_f rfl ?_ | refine o_op rfl ?_ | refine w_wr ?_ | refine w_wn ?_ | refine d_c rfl ?_ | refine d_on rfl ?_ | refine d_op rfl ?_ | refine d_y ?_ | refine d_gd rfl ?_ | refine d_t ?_ | refine d_f ?_ | refine d_nil ?_ | refine w_u false ?_ | refine w_dr rfl ?_ | refine d_q ?_ | refine n_0 rfl ?_ | refine d_n ?_ | refine k_p rfl rfl rfl rfl (hx) ?_ | refine w_gd rfl ?_ | ((first | refine zE1 ?_ | refine w_cl rfl rfl ?_ | refine o_cl rfl ?_ | refine d_cl rfl ?_); (conv => arg 1; try simp only [go_sem, Nat.reduceEqDiff, reduceIte, Nat.reduceAdd, Nat.reduceLeDiff, Nat.reduceMul, Int.reduceEq, Int.reduceLT, Int.reduceLE, Int.reduceNeg, Int.reduceAdd, Int.reduceSub, Nat.reduceLT, Nat.reduceBEq, Nat.reduceSub, Nat.reducePow, t1, t3, t4, q0, hlt, hltn, hcut, hle, w1]); first | refine zE3 ?_ | refine zE2 ?_ | refine zE4 ?_ | refine zE5 ?_ | refine zE6 ?_ | refine zE7 ?_ | refine zE8 ?_) | (refine b_s (fun hb => ?_) (fun hb => ?_) <;> ((try simp only [hn1, hn2, hn3, hn4] at hb); first | (exfalso; omega) | skip)) | (first | refine g_s (fun hb => ?_) (fun hb => ?_) | refine d_s (fun hb => ?_) (fun hb => ?_)) <;> ((try simp only [hn1, hn2] at hb); rw [hb]; try simp only [hn3, hn4] at hb)
        refine ⟨r.length, by simp, d ++ [.mk k' n' c' e' t' l' ks'], r, by simp [hdr], rfl, ?_, ?_, ?_, q0⟩
        all_goals simp [upd_ap, tAt, t1, t3]
    · simp [upd_ap, argsT]
  termination_by v => v
  decreasing_by
    simp_wf
    have := List.sizeOf_lt_of_mem hx
    omega
set_option maxRecDepth 100000 in
theorem pc49 (G : Nat → Option (List AV)) (v : JV) (hfit : Fit v) (h0 : chk v = 0) : Pc (Cf G) 49 [.agg (enc v)] (.sc (.int .i64 0)) := by
  obtain ⟨c1, c2, c3⟩ := chk_zero h0
  have h1 := pc98 G v hfit
  have h2 := pc99 G v hfit
  have h3 := pc100 G v hfit c3
  obtain ⟨k, ng, cf, ex, t, l, ks⟩ := v
  generalize deep (.mk k ng cf ex t l ks) 1000 = d1 at *
  generalize size (.mk k ng cf ex t l ks) = s1 at *
  simp only [enc] at h1 h2 h3 ⊢
  have e1 : ¬ 64 < d1 := by omega
  have e2 : ¬ 16384 < s1 := by omega
  refine Pc_of (Gf_enter (C := Cf G) Tryz.func49 rfl ok49 (Nat.le_of_ble_eq_true rfl) ?_)
  simp only [Tryz.f49, Option.getD_some]
  repeat' first | refine w_op rfl rfl ?_ | refine x_p rfl ?_ | refine w_sr ?_ | refine st_nil ?_ | refine w_seq ?_ | refine st_region ?_ | refine st_block ?_ | refine w_cond ?_ | refine b_t ?_ | refine b_f ?_ | refine st_skip ?_ | refine st_exit ?_ | refine st_ret ?_ | refine st_onNormN ?_ | refine st_onNormE ?_ | refine st_onNormR ?_ | refine st_onExitN ?_ | refine st_onExitR ?_ | refine st_onExitS ?_ | refine st_onExitO (by decide) ?_ | refine g_t ?_ | refine g_f rfl ?_ | refine o_op rfl ?_ | refine w_wr ?_ | refine w_wn ?_ | refine d_c rfl ?_ | refine d_on rfl ?_ | refine d_op rfl ?_ | refine d_y ?_ | refine d_gd rfl ?_ | refine d_t ?_ | refine d_f ?_ | refine d_nil ?_ | refine w_u false ?_ | refine w_dr rfl ?_ | refine d_q ?_ | refine n_0 rfl ?_ | refine d_n ?_ | refine k_p rfl rfl rfl rfl (h1) ?_ | refine k_p rfl rfl rfl rfl (h2) ?_ | refine k_p rfl rfl rfl rfl (h3) ?_ | refine w_gd rfl ?_ | ((first | refine zE1 ?_ | refine w_cl rfl rfl ?_ | refine o_cl rfl ?_ | refine d_cl rfl ?_); (conv => arg 1; try simp only [go_sem, Nat.reduceEqDiff, reduceIte, Nat.reduceAdd, Nat.reduceLeDiff, Nat.reduceMul, Int.reduceEq, Int.reduceLT, Int.reduceLE, Int.reduceNeg, Int.reduceAdd, Int.reduceSub, Nat.reduceLT, Nat.reduceBEq, Nat.reduceSub, Nat.reducePow, e1, e2]); first | refine zE3 ?_ | refine zE2 ?_ | refine zE4 ?_ | refine zE5 ?_ | refine zE6 ?_ | refine zE7 ?_ | refine zE8 ?_) | (refine b_s (fun hb => ?_) (fun hb => ?_) <;> ((try simp only [hn1, hn2, hn3, hn4] at hb); first | (exfalso; omega) | skip)) | (first | refine g_s (fun hb => ?_) (fun hb => ?_) | refine d_s (fun hb => ?_) (fun hb => ?_)) <;> ((try simp only [hn1, hn2] at hb); rw [hb]; try simp only [hn3, hn4] at hb)
  simp only [one1, frz_s, Option.map_some]
set_option maxHeartbeats 2000000 in
set_option maxRecDepth 100000 in
theorem pc15 (G : Nat → Option (List AV)) (l : List JV) (hl : l.length * 112 ≤ 140737488355328) (hf : Fits l) (h0 : ∀ x ∈ l, chk x = 0) : Pc (Cf G) 15 [.psl (encs l) l.length] (.sc (.int .i64 0)) := by
  refine Pc_of (Gf_enter (C := Cf G) Tryz.func15 rfl ok15 (Nat.le_of_ble_eq_true rfl) ?_)
  simp only [Tryz.f15, Option.getD_some]
  repeat' first | refine w_op rfl rfl ?_ | refine x_p rfl ?_ | refine w_sr ?_ | refine st_nil ?_ | refine w_seq ?_ | refine st_region ?_ | refine st_block ?_ | refine w_cond ?_ | refine b_t ?_ | refine b_f ?_ | refine st_skip ?_ | refine st_exit ?_ | refine st_ret ?_ | refine st_onNormN ?_ | refine st_onNormE ?_ | refine st_onNormR ?_ | refine st_onExitN ?_ | refine st_onExitR ?_ | refine st_onExitS ?_ | refine st_onExitO (by decide) ?_ | refine g_t ?_ | refine g_f rfl ?_ | refine o_op rfl ?_ | refine w_wr ?_ | refine w_wn ?_ | refine d_c rfl ?_ | refine d_on rfl ?_ | refine d_op rfl ?_ | refine d_y ?_ | refine d_gd rfl ?_ | refine d_t ?_ | refine d_f ?_ | refine d_nil ?_ | refine w_u false ?_ | refine w_dr rfl ?_ | refine d_q ?_ | refine w_gd rfl ?_ | ((first | refine zE1 ?_); (conv => arg 1; try simp only [go_sem, Nat.reduceEqDiff, reduceIte, Nat.reduceAdd, Nat.reduceLeDiff, Nat.reduceMul, Int.reduceEq, Int.reduceLT, Int.reduceLE, Int.reduceNeg, Int.reduceAdd, Int.reduceSub, Nat.reduceLT, Nat.reduceBEq, Nat.reduceSub, Nat.reducePow]); first | refine zE3 ?_ | refine zE2 ?_ | refine zE4 ?_ | refine zE5 ?_ | refine zE6 ?_ | refine zE7 ?_ | refine zE8 ?_) | (refine b_s (fun hb => ?_) (fun hb => ?_) <;> ((try simp only [hn1, hn2, hn3, hn4] at hb); first | (exfalso; omega) | skip)) | (first | refine g_s (fun hb => ?_) (fun hb => ?_) | refine d_s (fun hb => ?_) (fun hb => ?_)) <;> ((try simp only [hn1, hn2] at hb); rw [hb]; try simp only [hn3, hn4] at hb)
  refine Gc_loop_inv (fun m st => ∃ d r, l = d ++ r ∧ m = r.length ∧ st.T 0 = .psl (encs l) l.length ∧ st.T 3 = .sc (.int .i64 d.length)) ?_ l.length _ ⟨[], l, rfl, rfl, ?_⟩
  · rintro m ⟨T, h, n⟩ ⟨d, r, hdr, rfl, t0, t3⟩
    simp only at t0 t3
    cases r with
    | nil =>
      have hge : ¬ (d.length : Int) < (l.length : Int) := by rw [hdr]; simp
      repeat' first | refine w_op rfl rfl ?_ | refine x_p rfl ?_ | refine w_sr ?_ | refine st_nil ?_ | refine w_seq ?_ | refine st_region ?_ | refine st_block ?_ | refine w_cond ?_ | refine b_t ?_ | refine b_f ?_ | refine st_skip ?_ | refine st_exit ?_ | refine st_ret ?_ | refine st_onNormN ?_ | refine st_onNormE ?_ | refine st_onNormR ?_ | refine st_onExitN ?_ | refine st_onExitR ?_ | refine st_onExitS ?_ | refine st_onExitO (by decide) ?_ | refine g_t ?_ | refine g_f rfl ?_ | refine o_op rfl ?_ | refine w_wr ?_ | refine w_wn ?_ | refine d_c rfl ?_ | refine d_on rfl ?_ | refine d_op rfl ?_ | refine d_y ?_ | refine d_gd rfl ?_ | refine d_t ?_ | refine d_f ?_ | refine d_nil ?_ | refine w_u false ?_ | refine w_dr rfl ?_ | refine d_q ?_ | refine w_gd rfl ?_ | ((first | refine zE1 ?_); (conv => arg 1; try simp only [go_sem, Nat.reduceEqDiff, reduceIte, Nat.reduceAdd, Nat.reduceLeDiff, Nat.reduceMul, Int.reduceEq, Int.reduceLT, Int.reduceLE, Int.reduceNeg, Int.reduceAdd, Int.reduceSub, Nat.reduceLT, Nat.reduceBEq, Nat.reduceSub, Nat.reducePow, t0, t3, hge]); first | refine zE3 ?_ | refine zE2 ?_ | refine zE4 ?_ | refine zE5 ?_ | refine zE6 ?_ | refine zE7 ?_ | refine zE8 ?_) | (refine b_s (fun hb => ?_) (fun hb => ?_) <;> ((try simp only [hn1, hn2, hn3, hn4] at hb); first | (exfalso; omega) | skip)) | (first | refine g_s (fun hb => ?_) (fun hb => ?_) | refine d_s (fun hb => ?_) (fun hb => ?_)) <;> ((try simp only [hn1, hn2] at hb); rw [hb]; try simp only [hn3, hn4] at hb)
      simp only [one1, frz_s, Option.map_some]
    | cons x r =>
      have hlt : (d.length : Int) < (l.length : Int) := by rw [hdr]; simp; omega
      have hltn : d.length < l.length := by omega
      have hcut : cut (encs l) (d.length * 7) 7 = enc x := by rw [hdr]; exact cut_encs d x r
      have hle : d.length * 7 + 7 ≤ (encs l).length := by rw [encs_len]; omega
      have hx := pc49 G x (Fits_mem hf x (by rw [hdr]; simp)) (h0 x (by rw [hdr]; simp))
      have w1 : IntKind.i64.wrap ((d.length : Int) + 1) = (d.length : Int) + 1 := i64 (by omega) (by omega)
      obtain ⟨k', n', c', e', t', l', ks'⟩ := x
      simp only [enc] at hx hcut
      repeat' first | refine w_op rfl rfl ?_ | refine x_p rfl ?_ | refine w_sr ?_ | refine st_nil ?_ | refine w_seq ?_ | refine st_region ?_ | refine st_block ?_ | refine w_cond ?_ | refine b_t ?_ | refine b_f ?_ | refine st_skip ?_ | refine st_exit ?_ | refine st_ret ?_ | refine st_onNormN ?_ | refine st_onNormE ?_ | refine st_onNormR ?_ | refine st_onExitN ?_ | refine st_onExitR ?_ | refine st_onExitS ?_ | refine st_onExitO (by decide) ?_ | refine g_t ?_ | refine g_f rfl ?_ | refine o_op rfl ?_ | refine w_wr ?_ | refine w_wn ?_ | refine d_c rfl ?_ | refine d_on rfl ?_ | refine d_op rfl ?_ | refine d_y ?_ | refine d_gd rfl ?_ | refine d_t ?_ | refine d_f ?_ | refine d_nil ?_ | refine w_u false ?_ | refine w_dr rfl ?_ | refine d_q ?_ | refine n_0 rfl ?_ | refine d_n ?_ | refine k_p rfl rfl rfl rfl (hx) ?_ | refine w_gd rfl ?_ | ((first | refine zE1 ?_ | refine w_cl rfl rfl ?_ | refine o_cl rfl ?_ | refine d_cl rfl ?_); (conv => arg 1; try simp only [go_sem, Nat.reduceEqDiff, reduceIte, Nat.reduceAdd, Nat.reduceLeDiff, Nat.reduceMul, Int.reduceEq, Int.reduceLT, Int.reduceLE, Int.reduceNeg, Int.reduceAdd, Int.reduceSub, Nat.reduceLT, Nat.reduceBEq, Nat.reduceSub, Nat.reducePow, t0, t3, hlt, hltn, hcut, hle, w1]); first | refine zE3 ?_ | refine zE2 ?_ | refine zE4 ?_ | refine zE5 ?_ | refine zE6 ?_ | refine zE7 ?_ | refine zE8 ?_) | (refine b_s (fun hb => ?_) (fun hb => ?_) <;> ((try simp only [hn1, hn2, hn3, hn4] at hb); first | (exfalso; omega) | skip)) | (first | refine g_s (fun hb => ?_) (fun hb => ?_) | refine d_s (fun hb => ?_) (fun hb => ?_)) <;> ((try simp only [hn1, hn2] at hb); rw [hb]; try simp only [hn3, hn4] at hb)
      refine ⟨r.length, by simp, d ++ [.mk k' n' c' e' t' l' ks'], r, by simp [hdr], rfl, ?_, ?_⟩
      all_goals simp [upd_ap, tAt, t0]
  · simp [upd_ap, argsT]
end Go.Proofs.Bv
/-
  KindsFlat: its plain law, and the law's function.
  Conditions: none.
-/
namespace Go.Proofs.Bv
open Go
theorem or2_0 (e : Int) : or2 0 e = e := by
  unfold or2
  simp
theorem whole_0 (v : JV) : whole v 0 = if chk v = 0 then (v, 0) else (zeroV, chk v) := by
  unfold whole
  rw [or2_0]
  rfl
theorem flat_err {v : JV} {d : Int} (h : (flatten v d).2 ≠ 0) : (flatten v d).1 = zeroV := by
  unfold flatten at h ⊢
  split
  · rfl
  · split
    · rfl
    · split
      · rfl
      · rename_i h1 h2 h3
        rw [if_neg h1, if_neg h2, if_neg h3, whole_0] at h
        rw [whole_0]
        split
        · rename_i h4
          rw [if_pos h4] at h
          exact absurd rfl h
        · rfl
theorem list_of {v : JV} (h5 : v.kind = 5) (h : own v = 0) : v = .mk 5 false [] 0 ByteArray.empty v.list [] := by
  obtain ⟨k, ng, cf, ex, t, l, ks⟩ := v
  simp only [JV.kind] at h5
  subst h5
  obtain ⟨_, _, _, _, _, hnum, hus, _⟩ := own_parts h
  simp only [used, Bool.and_eq_true, Bool.or_eq_true, decide_eq_true_eq] at hus
  obtain ⟨⟨hu1, hu2⟩, hu3⟩ := hus
  simp only [numOk, if_neg (show ¬ (5 : Int) = 3 by omega), Bool.and_eq_true, decide_eq_true_eq, Bool.not_eq_true'] at hnum
  obtain ⟨⟨h1, h2⟩, h4⟩ := hnum
  try simp only [Bool.not_eq_true] at h1 h2 h4
  have e1 : cf = [] := List.eq_nil_of_length_eq_zero (by omega)
  have e2 : ks = [] := List.eq_nil_of_length_eq_zero (by rw [if_neg (by omega)] at hu3; omega)
  have e3 : t = ByteArray.empty := by
    have := hu1.resolve_left (by omega)
    have e : t.data.toList = [] := by
      have e := eq_of_beq (show (t.toList == (ByteArray.mk #[]).toList) = true from this)
      rw [ByteArray.toList_eq, ByteArray.toList_eq] at e
      exact e
    apply ByteArray.ext
    apply Array.toList_inj.1
    exact e
  subst e1; subst e2; subst e3; subst h4; subst h1
  rfl
theorem own_len {v : JV} (h : own v = 0) : (v.list.length : Int) ≤ 4096 := by
  obtain ⟨k, ng, cf, ex, t, l, ks⟩ := v
  exact (own_parts h).2.2.2.1
theorem flat_law (v : JV) (n : Nat) (h : (flatten v n).2 = 0) :
    (flatten v n).1.kind = 5 ∧ (∀ x ∈ (flatten v n).1.list, chk x = 0) ∧ flatten (flatten v n).1 1 = flatten v ((n : Int) + 1) ∧ flatten v 0 = (v, 0) := by
  have hc : chk v = 0 := by
    unfold flatten at h
    split at h
    · rename_i h0; exact absurd h h0
    · rename_i h0; exact Decidable.not_not.1 h0
  have hk : v.kind = 5 := by
    unfold flatten at h
    rw [if_neg (by simp [hc])] at h
    split at h
    · simp at h
    · rename_i h0; exact Decidable.not_not.1 h0
  have e0 : ∀ m : Nat, flatten v m = whole (.mk 5 false [] 0 ByteArray.empty (flL v.list m []).1 []) 0 := by
    intro m
    unfold flatten
    rw [if_neg (by simp [hc]), if_neg (by simp [hk]), if_neg (by omega), Int.toNat_natCast]
  have hv := list_of hk (chk_own hc)
  have ef : ∀ (l : List JV) (m : Nat), (flL l m []).1 = (cutAt (full l m)).1 := fun l m => by rw [flL_full l m [] (by simp), List.nil_append]
  rw [e0, whole_0] at h
  have hcA : chk (.mk 5 false [] 0 ByteArray.empty (flL v.list n []).1 []) = 0 := by
    split at h
    · assumption
    · rename_i h1; exact absurd h h1
  have hA : flatten v n = (.mk 5 false [] 0 ByteArray.empty (flL v.list n []).1 [], 0) := by rw [e0, whole_0, if_pos hcA]
  have hlen : (flL v.list n []).1.length ≤ 4096 := by
    obtain ⟨_, _, _, h4, _⟩ := own_parts (chk_own hcA)
    omega
  have hfull : (flL v.list n []).1 = full v.list n := by
    rw [ef] at hlen ⊢
    unfold cutAt at hlen ⊢
    split
    · rfl
    · rename_i h1
      rw [if_neg h1] at hlen
      simp only [List.length_take] at hlen
      omega
  rw [hA]
  refine ⟨rfl, chk_part (.inl rfl) hcA, ?_, ?_⟩
  · rw [show ((n : Int) + 1) = ((n + 1 : Nat) : Int) by omega, e0]
    unfold flatten
    rw [if_neg (by simp [hcA]), if_neg (by simp [JV.kind]), if_neg (by omega)]
    show whole (.mk 5 false [] 0 ByteArray.empty (flL (flL v.list n []).1 (1 : Int).toNat []).1 []) 0 = _
    rw [hfull, show (1 : Int).toNat = 1 by rfl, ef, ef, full_one]
  · have := e0 0
    rw [show ((0 : Nat) : Int) = 0 by rfl] at this
    rw [this, ef, full_zero]
    have hl : v.list.length ≤ 4096 := by
      have := own_len (chk_own hc)
      omega
    unfold cutAt
    rw [if_pos hl, whole_0, ← hv, if_pos hc]
theorem ok3 : codeOk 73 (Tryz.f3.body.getD .skip) = true := by kernel_rfl
theorem ok13 : codeOk 4 (Tryz.f13.body.getD .skip) = true := by kernel_rfl
theorem pc13 (G : Nat → Option (List AV)) (e : Int) (he : -9223372036854775808 ≤ e ∧ e ≤ 9223372036854775807) : Pc (Cf G) 13 [.sc (.int .i64 e)] (.sc (.int .i64 e)) := by
  have w := i64 he.1 he.2
  refine Pc_of (Gf_enter (C := Cf G) Tryz.func13 rfl ok13 (Nat.le_of_ble_eq_true rfl) ?_)
  simp only [Tryz.f13, Option.getD_some]
  repeat' first | refine w_op rfl rfl ?_ | refine x_p rfl ?_ | refine w_sr ?_ | refine st_nil ?_ | refine w_seq ?_ | refine st_region ?_ | refine st_block ?_ | refine w_cond ?_ | refine b_t ?_ | refine b_f ?_ | refine st_skip ?_ | refine st_exit ?_ | refine st_ret ?_ | refine st_onNormN ?_ | refine st_onNormE ?_ | refine st_onNormR ?_ | refine st_onExitN ?_ | refine st_onExitR ?_ | refine st_onExitS ?_ | refine st_onExitO (by decide) ?_ | refine g_t ?_ | refine g_f rfl ?_ | refine o_op rfl ?_ | refine w_wr ?_ | refine w_wn ?_ | refine d_c rfl ?_ | refine d_on rfl ?_ | refine d_op rfl ?_ | refine d_y ?_ | refine d_gd rfl ?_ | refine d_t ?_ | refine d_f ?_ | refine d_nil ?_ | refine w_u false ?_ | refine w_dr rfl ?_ | refine d_q ?_ | refine w_gd rfl ?_ | ((first | refine zE1 ?_); (conv => arg 1; try simp only [go_sem, Nat.reduceEqDiff, reduceIte, Nat.reduceAdd, Nat.reduceLeDiff, Nat.reduceMul, Int.reduceEq, Int.reduceLT, Int.reduceLE, Int.reduceNeg, Int.reduceAdd, Int.reduceSub, Nat.reduceLT, Nat.reduceBEq, Nat.reduceSub, Nat.reducePow, w]); first | refine zE3 ?_ | refine zE2 ?_ | refine zE4 ?_ | refine zE5 ?_ | refine zE6 ?_ | refine zE7 ?_ | refine zE8 ?_) | (refine b_s (fun hb => ?_) (fun hb => ?_) <;> ((try simp only [hn1, hn2, hn3, hn4] at hb); first | (exfalso; omega) | skip)) | (first | refine g_s (fun hb => ?_) (fun hb => ?_) | refine d_s (fun hb => ?_) (fun hb => ?_)) <;> ((try simp only [hn1, hn2] at hb); rw [hb]; try simp only [hn3, hn4] at hb)
  simp only [one1, frz_s, Option.map_some]
theorem fit_flatten {v : JV} {d : Int} (h : Fit v) : Fit (flatten v d).1 := by
  have hz : Fit zeroV := ⟨⟨by omega, by omega, by simp, by simp, by decide, by simp, by simp, by simp⟩, trivial⟩
  unfold flatten
  split
  · exact hz
  · split
    · exact hz
    · split
      · exact hz
      · rw [whole_0]
        split
        · refine fit_flat ?_ ?_
          · have := flL_len2 v.list d.toNat [] (by simp)
            exact this
          · refine flL_fit _ _ _ ?_ trivial
            obtain ⟨k, ng, cf, ex, t, l, ks⟩ := v
            exact h.2
        · exact hz
/-! ### Errors are small numbers -/
theorem chkFrom_rng (s : ByteArray) (p : Nat) : 0 ≤ (chkFrom s p).2 ∧ (chkFrom s p).2 ≤ 100 := by
  unfold chkFrom
  split
  · rename_i h
    have := wide_rng s p h
    split
    · simp
    · exact chkFrom_rng s (p + wideAt s p)
  · simp
termination_by s.size - p
theorem letters_rng (s : ByteArray) : 0 ≤ letters s ∧ letters s ≤ 100 := by
  have := chkFrom_rng s 0
  unfold letters
  split
  · split <;> omega
  · omega
theorem textsK_rng : (ks : List ByteArray) → (e : Int) → 0 ≤ e ∧ e ≤ 100 → 0 ≤ textsK ks e ∧ textsK ks e ≤ 100
  | [], e, h => h
  | k :: r, e, h => by
    have := letters_rng k
    simp only [textsK]
    refine textsK_rng r _ ?_
    unfold or2
    split <;> omega
theorem own_rng (v : JV) : 0 ≤ own v ∧ own v ≤ 100 := by
  obtain ⟨k, ng, cf, ex, t, l, ks⟩ := v
  have := textsK_rng ks (letters t) (letters_rng t)
  simp only [own, texts]
  repeat' split
  all_goals omega
theorem firstErr_rng : (l : List JV) → 0 ≤ firstErr l ∧ firstErr l ≤ 100
  | [] => by simp [firstErr]
  | x :: r => by
    have := own_rng x
    have := firstErr_rng r
    simp only [firstErr]
    split <;> omega
theorem chk_rng (v : JV) : 0 ≤ chk v ∧ chk v ≤ 100 := by
  have := firstErr_rng (pre v)
  unfold chk
  repeat' split
  all_goals omega
theorem flat_rng (v : JV) (d : Int) : -9223372036854775808 ≤ (flatten v d).2 ∧ (flatten v d).2 ≤ 9223372036854775807 := by
  have := chk_rng v
  unfold flatten
  split
  · simp only; omega
  · split
    · simp
    · split
      · simp
      · rw [whole_0]
        split
        · simp
        · have := chk_rng (.mk 5 false [] 0 ByteArray.empty (flL v.list d.toNat []).1 [])
          simp only
          omega
set_option maxHeartbeats 4000000 in
set_option maxRecDepth 100000 in
theorem pc3 (G : Nat → Option (List AV)) (v : JV) (depth : Int) (hfit : Fit v) : Pc (Cf G) 3 [.agg (enc v), .sc (.int .i64 depth)] (.sc (.bool true)) := by
  have b1 := Int.tmod_lt_of_pos depth (show (0 : Int) < 20 by omega)
  have b2 := Int.lt_tmod_of_pos depth (show (0 : Int) < 20 by omega)
  have w1 : IntKind.i64.wrap (depth.tmod 20 + 20) = depth.tmod 20 + 20 := i64 (by omega) (by omega)
  obtain ⟨n, hn⟩ : ∃ n : Nat, (depth.tmod 20 + 20).tmod 20 = n := ⟨((depth.tmod 20 + 20).tmod 20).toNat, by have := Int.tmod_nonneg 20 (show 0 ≤ depth.tmod 20 + 20 by omega); omega⟩
  have hn20 : (n : Int) < 20 := by rw [← hn]; exact Int.tmod_lt_of_pos _ (by omega)
  have w2 : IntKind.i64.wrap ((n : Int) + 1) = (n : Int) + 1 := i64 (by omega) (by omega)
  have h11 := pc11 G
  have hA := pc12 G v n hfit (by omega)
  have hB := pc12 G (flatten v n).1 1 (fit_flatten hfit) (by omega)
  have hC := pc12 G v ((n : Int) + 1) hfit (by omega)
  have hD := pc12 G v 0 hfit (by omega)
  have hE := pc13 G (flatten v n).2 (flat_rng v n)
  have hF := pc13 G (flatten v 0).2 (flat_rng v 0)
  have hl := flat_law v n
  have he : (flatten v n).2 ≠ 0 → (flatten v n).1 = zeroV := flat_err
  have hfa : Fit (flatten v n).1 := fit_flatten hfit
  have hfb : Fit (flatten v ((n : Int) + 1)).1 := fit_flatten hfit
  generalize flatten v (n : Int) = A at *
  obtain ⟨a, e⟩ := A
  simp only at hA hB hE hl he hfa
  by_cases h0 : e = 0
  · subst h0
    obtain ⟨h5, hchk, hbc, hd⟩ := hl rfl
    rw [hbc] at hB
    rw [hd] at hD hF
    have hS1 := pc14 G _ hfb
    have hS2 := pc14 G v hfit
    generalize flatten v ((n : Int) + 1) = B at *
    obtain ⟨b, f⟩ := B
    obtain ⟨k, ng, cf, ex, t, l, ks⟩ := v
    obtain ⟨k1, ng1, cf1, ex1, t1, l1, ks1⟩ := a
    obtain ⟨k2, ng2, cf2, ex2, t2, l2, ks2⟩ := b
    have hK := pc15 G l1 hfa.1.nlist hfa.2 hchk
    simp only [enc] at hA hB hC hD hE hF hS1 hS2
    refine Pc_of (Gf_enter (C := Cf G) Tryz.func3 rfl ok3 (Nat.le_of_ble_eq_true rfl) ?_)
    simp only [Tryz.f3, Option.getD_some]
    simp only [enc]
    repeat' first | refine w_op rfl rfl ?_ | refine x_p rfl ?_ | refine w_sr ?_ | refine st_nil ?_ | refine w_seq ?_ | refine st_region ?_ | refine st_block ?_ | refine w_cond ?_ | refine b_t ?_ | refine b_f ?_ | refine st_skip ?_ | refine st_exit ?_ | refine st_ret ?_ | refine st_onNormN ?_ | refine st_onNormE ?_ | refine st_onNormR ?_ | refine st_onExitN ?_ | refine st_onExitR ?_ | refine st_onExitS ?_ | refine st_onExitO (by decide) ?_ | refine g_t ?_ | refine g_f rfl ?_ | refine o_op rfl ?_ | refine w_wr ?_ | refine w_wn ?_ | refine d_c rfl ?_ | refine d_on rfl ?_ | refine d_op rfl ?_ | refine d_y ?_ | refine d_gd rfl ?_ | refine d_t ?_ | refine d_f ?_ | refine d_nil ?_ | refine w_u false ?_ | refine w_dr rfl ?_ | refine d_q ?_ | refine n_0 rfl ?_ | refine d_n ?_ | refine k_p rfl rfl rfl rfl (h11) ?_ | refine k_p rfl rfl rfl rfl (hA) ?_ | refine k_p rfl rfl rfl rfl (hB) ?_ | refine k_p rfl rfl rfl rfl (hC) ?_ | refine k_p rfl rfl rfl rfl (hD) ?_ | refine k_p rfl rfl rfl rfl (hE) ?_ | refine k_p rfl rfl rfl rfl (hF) ?_ | refine k_p rfl rfl rfl rfl (hS1) ?_ | refine k_p rfl rfl rfl rfl (hS2) ?_ | refine k_p rfl rfl rfl rfl (hK) ?_ | refine w_gd rfl ?_ | ((first | refine zE1 ?_ | refine w_cl rfl rfl ?_ | refine o_cl rfl ?_ | refine d_cl rfl ?_); (conv => arg 1; try simp only [go_sem, Nat.reduceEqDiff, reduceIte, Nat.reduceAdd, Nat.reduceLeDiff, Nat.reduceMul, Int.reduceEq, Int.reduceLT, Int.reduceLE, Int.reduceNeg, Int.reduceAdd, Int.reduceSub, Nat.reduceLT, Nat.reduceBEq, Nat.reduceSub, Nat.reducePow, w1, w2, hn, eq_self]); first | refine zE3 ?_ | refine zE2 ?_ | refine zE4 ?_ | refine zE5 ?_ | refine zE6 ?_ | refine zE7 ?_ | refine zE8 ?_) | (refine b_s (fun hb => ?_) (fun hb => ?_) <;> ((try simp only [hn1, hn2, hn3, hn4] at hb); first | (exfalso; omega) | skip)) | (first | refine g_s (fun hb => ?_) (fun hb => ?_) | refine d_s (fun hb => ?_) (fun hb => ?_)) <;> ((try simp only [hn1, hn2] at hb); rw [hb]; try simp only [hn3, hn4] at hb)
    simp only [one1, frz_s, Option.map_some]
  · have hz := he h0
    subst hz
    generalize flatten v ((n : Int) + 1) = C at *
    generalize flatten zeroV 1 = B at *
    generalize flatten v 0 = D at *
    obtain ⟨b, f⟩ := B
    obtain ⟨c, g⟩ := C
    obtain ⟨d, q⟩ := D
    obtain ⟨k, ng, cf, ex, t, l, ks⟩ := v
    obtain ⟨k1, ng1, cf1, ex1, t1, l1, ks1⟩ := b
    obtain ⟨k2, ng2, cf2, ex2, t2, l2, ks2⟩ := c
    obtain ⟨k3, ng3, cf3, ex3, t3, l3, ks3⟩ := d
    simp only [enc, zeroV, encs, u32s, strs, List.map_nil, List.length_nil] at hA hB hC hD hE hF
    refine Pc_of (Gf_enter (C := Cf G) Tryz.func3 rfl ok3 (Nat.le_of_ble_eq_true rfl) ?_)
    simp only [Tryz.f3, Option.getD_some]
    simp only [enc]
    repeat' first | refine w_op rfl rfl ?_ | refine x_p rfl ?_ | refine w_sr ?_ | refine st_nil ?_ | refine w_seq ?_ | refine st_region ?_ | refine st_block ?_ | refine w_cond ?_ | refine b_t ?_ | refine b_f ?_ | refine st_skip ?_ | refine st_exit ?_ | refine st_ret ?_ | refine st_onNormN ?_ | refine st_onNormE ?_ | refine st_onNormR ?_ | refine st_onExitN ?_ | refine st_onExitR ?_ | refine st_onExitS ?_ | refine st_onExitO (by decide) ?_ | refine g_t ?_ | refine g_f rfl ?_ | refine o_op rfl ?_ | refine w_wr ?_ | refine w_wn ?_ | refine d_c rfl ?_ | refine d_on rfl ?_ | refine d_op rfl ?_ | refine d_y ?_ | refine d_gd rfl ?_ | refine d_t ?_ | refine d_f ?_ | refine d_nil ?_ | refine w_u false ?_ | refine w_dr rfl ?_ | refine d_q ?_ | refine n_0 rfl ?_ | refine d_n ?_ | refine k_p rfl rfl rfl rfl (h11) ?_ | refine k_p rfl rfl rfl rfl (hA) ?_ | refine k_p rfl rfl rfl rfl (hB) ?_ | refine k_p rfl rfl rfl rfl (hC) ?_ | refine k_p rfl rfl rfl rfl (hD) ?_ | refine k_p rfl rfl rfl rfl (hE) ?_ | refine w_gd rfl ?_ | ((first | refine zE1 ?_ | refine w_cl rfl rfl ?_ | refine o_cl rfl ?_ | refine d_cl rfl ?_); (conv => arg 1; try simp only [go_sem, Nat.reduceEqDiff, reduceIte, Nat.reduceAdd, Nat.reduceLeDiff, Nat.reduceMul, Int.reduceEq, Int.reduceLT, Int.reduceLE, Int.reduceNeg, Int.reduceAdd, Int.reduceSub, Nat.reduceLT, Nat.reduceBEq, Nat.reduceSub, Nat.reducePow, w1, w2, hn, h0, eq_self, Int.natCast_zero]); first | refine zE3 ?_ | refine zE2 ?_ | refine zE4 ?_ | refine zE5 ?_ | refine zE6 ?_ | refine zE7 ?_ | refine zE8 ?_) | (refine b_s (fun hb => ?_) (fun hb => ?_) <;> ((try simp only [hn1, hn2, hn3, hn4] at hb); first | (exfalso; omega) | skip)) | (first | refine g_s (fun hb => ?_) (fun hb => ?_) | refine d_s (fun hb => ?_) (fun hb => ?_)) <;> ((try simp only [hn1, hn2] at hb); rw [hb]; try simp only [hn3, hn4] at hb)
    simp only [one1, frz_s, Option.map_some]
end Go.Proofs.Bv
