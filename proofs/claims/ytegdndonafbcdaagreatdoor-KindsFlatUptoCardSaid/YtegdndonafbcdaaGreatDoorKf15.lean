/-
  A part of the proof of KindsFlatUptoCardSaid: BkUtf, BkRefA, BkRefB, BkRefC, BkRefD, BkRefU.
  Conditions: those that each part names.
-/
import Derived.Test.YtegdndonafbcdaaGreatDoorKf14
import Derived.Lib.DecodeN
set_option linter.unusedSimpArgs false
set_option linter.unusedVariables false
/-
  What the reference takes for a text's first character is what the library takes for it.
  Conditions: none.
-/
namespace Go.Proofs.Bv
open Go
def mayN (n : Nat) : Bool := decide (n ≤ 1114111) && (decide (n < 55296) || decide (57343 < n))
def octN (n : Nat) : List Nat :=
  if n < 128 then [n]
  else if n < 2048 then [192 + n / 64, 128 + n % 64]
  else if n < 65536 then [224 + n / 4096, 128 + n / 64 % 64, 128 + n % 64]
  else [240 + n / 262144, 128 + n / 4096 % 64, 128 + n / 64 % 64, 128 + n % 64]
def finN (bs : List Nat) (n : Nat) : Nat × Nat := if mayN n = true ∧ octN n = bs then (n, bs.length) else (0, 0)
def firstN (n b0 b1 b2 b3 : Nat) : Nat × Nat :=
  if n = 0 then (0, 0)
  else if 240 ≤ b0 then (if n < 4 then (0, 0) else finN [b0, b1, b2, b3] ((((b0 - 240) * 64 + b1 % 64) * 64 + b2 % 64) * 64 + b3 % 64))
  else if 224 ≤ b0 then (if n < 3 then (0, 0) else finN [b0, b1, b2] (((b0 - 224) * 64 + b1 % 64) * 64 + b2 % 64))
  else if 192 ≤ b0 then (if n < 2 then (0, 0) else finN [b0, b1] ((b0 - 192) * 64 + b1 % 64))
  else finN [b0] b0
def goodN (d : Nat × Nat) : Nat × Nat := if d.1 = 65533 ∧ d.2 = 1 then (0, 0) else d
theorem octN_1 (n b0 : Nat) (h : mayN n = true) : octN n = [b0] ↔ n < 128 ∧ n = b0 := by
  unfold octN
  split
  · simp; omega
  · split
    · simp; omega
    · split
      · simp; omega
      · simp; omega
theorem octN_2 (n b0 b1 : Nat) : octN n = [b0, b1] ↔ 128 ≤ n ∧ n < 2048 ∧ 192 + n / 64 = b0 ∧ 128 + n % 64 = b1 := by
  unfold octN
  split
  · simp; omega
  · split
    · simp; omega
    · split
      · simp; omega
      · simp; omega
theorem octN_3 (n b0 b1 b2 : Nat) : octN n = [b0, b1, b2] ↔ 2048 ≤ n ∧ n < 65536 ∧ 224 + n / 4096 = b0 ∧ 128 + n / 64 % 64 = b1 ∧ 128 + n % 64 = b2 := by
  unfold octN
  split
  · simp; omega
  · split
    · simp; omega
    · split
      · simp; omega
      · simp; omega
theorem octN_4 (n b0 b1 b2 b3 : Nat) : octN n = [b0, b1, b2, b3] ↔ 65536 ≤ n ∧ 240 + n / 262144 = b0 ∧ 128 + n / 4096 % 64 = b1 ∧ 128 + n / 64 % 64 = b2 ∧ 128 + n % 64 = b3 := by
  unfold octN
  split
  · simp; omega
  · split
    · simp; omega
    · split
      · simp; omega
      · simp; omega
theorem mayN_iff (n : Nat) : mayN n = true ↔ n ≤ 1114111 ∧ (n < 55296 ∨ 57343 < n) := by simp [mayN]
set_option maxHeartbeats 4000000 in
theorem first_good (n b0 b1 b2 b3 : Nat) (hn : 0 < n) (h0 : b0 < 256) (h1 : b1 < 256) (h2 : b2 < 256) (h3 : b3 < 256) : firstN n b0 b1 b2 b3 = goodN (Lib.decodeN n b0 b1 b2 b3) := by
  unfold firstN
  rw [if_neg (by omega)]
  by_cases c1 : 240 ≤ b0
  · rw [if_pos c1]
    unfold Lib.decodeN
    by_cases hn4 : n < 4
    · rw [if_pos hn4, if_neg (by omega), if_neg (by omega), if_neg (by omega), if_neg (by omega)]
      simp [goodN]
    · rw [if_neg hn4, if_neg (by omega), if_neg (by omega), if_neg (by omega)]
      by_cases hc : b0 / 8 = 30 ∧ b1 / 64 = 2 ∧ b2 / 64 = 2 ∧ b3 / 64 = 2
      · rw [if_pos (by omega)]
        generalize hv : b0 % 8 * 262144 + b1 % 64 * 4096 + b2 % 64 * 64 + b3 % 64 = v
        have e : (((b0 - 240) * 64 + b1 % 64) * 64 + b2 % 64) * 64 + b3 % 64 = v := by omega
        rw [e]
        unfold finN
        by_cases hg : v ≥ 65536 ∧ (v < 55296 ∨ 57344 ≤ v ∧ v ≤ 1114111)
        · rw [if_pos hg, if_pos ⟨(mayN_iff v).2 (by omega), (octN_4 v b0 b1 b2 b3).2 (by omega)⟩]
          unfold goodN
          rw [if_neg (by simp)]
          rfl
        · rw [if_neg hg, if_neg (by rw [mayN_iff, octN_4]; omega)]
          simp [goodN]
      · rw [if_neg (by omega)]
        unfold finN
        rw [if_neg (by rw [mayN_iff, octN_4]; omega)]
        simp [goodN]
  · rw [if_neg c1]
    by_cases c2 : 224 ≤ b0
    · rw [if_pos c2]
      unfold Lib.decodeN
      by_cases hn3 : n < 3
      · rw [if_pos hn3, if_neg (by omega), if_neg (by omega), if_neg (by omega), if_neg (by omega)]
        simp [goodN]
      · rw [if_neg hn3, if_neg (by omega), if_neg (by omega)]
        by_cases hc : b1 / 64 = 2 ∧ b2 / 64 = 2
        · rw [if_pos (by omega)]
          generalize hv : b0 % 16 * 4096 + b1 % 64 * 64 + b2 % 64 = v
          have e : ((b0 - 224) * 64 + b1 % 64) * 64 + b2 % 64 = v := by omega
          rw [e]
          unfold finN
          by_cases hg : v ≥ 2048 ∧ (v < 55296 ∨ 57344 ≤ v ∧ v ≤ 1114111)
          · rw [if_pos hg, if_pos ⟨(mayN_iff v).2 (by omega), (octN_3 v b0 b1 b2).2 (by omega)⟩]
            unfold goodN
            rw [if_neg (by simp)]
            rfl
          · rw [if_neg hg, if_neg (by rw [mayN_iff, octN_3]; omega)]
            simp [goodN]
        · rw [if_neg (by omega), if_neg (by omega)]
          unfold finN
          rw [if_neg (by rw [mayN_iff, octN_3]; omega)]
          simp [goodN]
    · rw [if_neg c2]
      by_cases c3 : 192 ≤ b0
      · rw [if_pos c3]
        unfold Lib.decodeN
        by_cases hn2 : n < 2
        · rw [if_pos hn2, if_neg (by omega), if_neg (by omega), if_neg (by omega), if_neg (by omega)]
          simp [goodN]
        · rw [if_neg hn2, if_neg (by omega)]
          by_cases hc : b1 / 64 = 2
          · rw [if_pos (by omega)]
            generalize hv : b0 % 32 * 64 + b1 % 64 = v
            have e : (b0 - 192) * 64 + b1 % 64 = v := by omega
            rw [e]
            unfold finN
            by_cases hg : v ≥ 128
            · rw [if_pos hg, if_pos ⟨(mayN_iff v).2 (by omega), (octN_2 v b0 b1).2 (by omega)⟩]
              unfold goodN
              rw [if_neg (by simp)]
              rfl
            · rw [if_neg hg, if_neg (by rw [mayN_iff, octN_2]; omega)]
              simp [goodN]
          · rw [if_neg (by omega), if_neg (by omega), if_neg (by omega)]
            unfold finN
            rw [if_neg (by rw [mayN_iff, octN_2]; omega)]
            simp [goodN]
      · rw [if_neg c3]
        unfold Lib.decodeN finN
        by_cases c4 : b0 < 128
        · rw [if_pos c4, if_pos ⟨(mayN_iff b0).2 (by omega), (octN_1 b0 b0 ((mayN_iff b0).2 (by omega))).2 ⟨c4, rfl⟩⟩]
          unfold goodN
          rw [if_neg (by simp; omega)]
          rfl
        · have hm : mayN b0 = true := (mayN_iff b0).2 (by omega)
          rw [if_neg (by rw [octN_1 b0 b0 hm]; omega), if_neg c4, if_neg (by omega), if_neg (by omega), if_neg (by omega)]
          simp [goodN]
end Go.Proofs.Bv
/-
  The reference's Same of decimals, deep, Deep, Size.
  Conditions: none.
-/
namespace Go.Proofs.Bv
open Go
theorem ok157 : codeOk 38 (Tryz.f157.body.getD .skip) = true := by kernel_rfl
theorem ok98 : codeOk 5 (Tryz.f98.body.getD .skip) = true := by kernel_rfl
theorem ok99 : codeOk 26 (Tryz.f99.body.getD .skip) = true := by kernel_rfl
def deepAux (v : JV) (left : Int) : Int := deep v left
set_option maxHeartbeats 2000000 in
set_option maxRecDepth 100000 in
theorem pc99 (G : Nat → Option (List AV)) : (v : JV) → Fit v → Pc (Cf G) 99 [.agg (enc v)] (.sc (.int .i64 (size v)))
  | .mk kk ng cf ex t l ks => fun hfit => by
    have hnl := hfit.1.nlist
    have ih : ∀ x ∈ l, Pc (Cf G) 99 [.agg (enc x)] (.sc (.int .i64 (size x))) := fun x hx => pc99 G x (Fits_mem hfit.2 x hx)
    refine Pc_of (Gf_enter (C := Cf G) Tryz.func99 rfl ok99 (Nat.le_of_ble_eq_true rfl) ?_)
    simp only [Tryz.f99, Option.getD_some]
    simp only [enc]
    repeat' first | refine w_op rfl rfl ?_ | refine x_p rfl ?_ | refine w_sr ?_ | refine st_nil ?_ | refine w_seq ?_ | refine st_region ?_ | refine st_block ?_ | refine w_cond ?_ | refine b_t ?_ | refine b_f ?_ | refine st_skip ?_ | refine st_exit ?_ | refine st_ret ?_ | refine st_onNormN ?_ | refine st_onNormE ?_ | refine st_onNormR ?_ | refine st_onExitN ?_ | refine st_onExitR ?_ | refine st_onExitS ?_ | refine st_onExitO (by decide) ?_ | refine g_t ?_ | refine g_f rfl ?_ | refine o_op rfl ?_ | refine w_wr ?_ | refine w_wn ?_ | refine d_c rfl ?_ | refine d_on rfl ?_ | refine d_op rfl ?_ | refine d_y ?_ | refine d_gd rfl ?_ | refine d_t ?_ | refine d_f ?_ | refine d_nil ?_ | refine w_u false ?_ | refine w_dr rfl ?_ | refine d_q ?_ | refine w_gd rfl ?_ | ((first | refine zE1 ?_); (conv => arg 1; try simp only [go_sem, Nat.reduceEqDiff, reduceIte, Nat.reduceAdd, Nat.reduceLeDiff, Nat.reduceMul, Int.reduceEq, Int.reduceLT, Int.reduceLE, Int.reduceNeg, Int.reduceAdd, Int.reduceSub, Nat.reduceLT, Nat.reduceBEq, Nat.reduceSub, Nat.reducePow]); first | refine zE3 ?_ | refine zE2 ?_ | refine zE4 ?_ | refine zE5 ?_ | refine zE6 ?_ | refine zE7 ?_ | refine zE8 ?_) | (refine b_s (fun hb => ?_) (fun hb => ?_) <;> ((try simp only [hn1, hn2, hn3, hn4] at hb); first | (exfalso; omega) | skip)) | (first | refine g_s (fun hb => ?_) (fun hb => ?_) | refine d_s (fun hb => ?_) (fun hb => ?_)) <;> ((try simp only [hn1, hn2] at hb); rw [hb]; try simp only [hn3, hn4] at hb)
    refine Gc_loop_inv (fun m s => ∃ d r acc, l = d ++ r ∧ m = r.length ∧ s.h 0 = some (.cells [.sc (.int .i64 kk), .sc (.bool ng), .psl (u32s cf) cf.length, .sc (.int .i64 ex), .sc (.string t), .psl (encs l) l.length, .psl (strs ks) ks.length] 0 false) ∧ s.T 1 = .ptr 0 0 ∧ s.T 4 = .sc (.int .i64 d.length) ∧ s.T 3 = .sc (.int .i64 acc) ∧ sizes r acc = sizes l 1 ∧ 1 ≤ acc ∧ acc ≤ 2097152) ?_ l.length _ ⟨[], l, 1, rfl, rfl, ?_⟩
    · rintro m ⟨T, h, n⟩ ⟨d, r, acc, hl, rfl, q0, h1, h4, h3, hs, ha1, ha2⟩
      simp only at q0 h1 h4 h3
      have hdl : d.length ≤ l.length := by rw [hl]; simp
      cases r with
      | nil =>
        have hge : ¬ (d.length : Int) < (l.length : Int) := by rw [hl]; simp
        repeat' first | refine w_op rfl rfl ?_ | refine x_p rfl ?_ | refine w_sr ?_ | refine st_nil ?_ | refine w_seq ?_ | refine st_region ?_ | refine st_block ?_ | refine w_cond ?_ | refine b_t ?_ | refine b_f ?_ | refine st_skip ?_ | refine st_exit ?_ | refine st_ret ?_ | refine st_onNormN ?_ | refine st_onNormE ?_ | refine st_onNormR ?_ | refine st_onExitN ?_ | refine st_onExitR ?_ | refine st_onExitS ?_ | refine st_onExitO (by decide) ?_ | refine g_t ?_ | refine g_f rfl ?_ | refine o_op rfl ?_ | refine w_wr ?_ | refine w_wn ?_ | refine d_c rfl ?_ | refine d_on rfl ?_ | refine d_op rfl ?_ | refine d_y ?_ | refine d_gd rfl ?_ | refine d_t ?_ | refine d_f ?_ | refine d_nil ?_ | refine w_u false ?_ | refine w_dr rfl ?_ | refine d_q ?_ | refine w_gd rfl ?_ | ((first | refine zE1 ?_); (conv => arg 1; try simp only [go_sem, Nat.reduceEqDiff, reduceIte, Nat.reduceAdd, Nat.reduceLeDiff, Nat.reduceMul, Int.reduceEq, Int.reduceLT, Int.reduceLE, Int.reduceNeg, Int.reduceAdd, Int.reduceSub, Nat.reduceLT, Nat.reduceBEq, Nat.reduceSub, Nat.reducePow, q0, h1, h4, h3, hge]); first | refine zE3 ?_ | refine zE2 ?_ | refine zE4 ?_ | refine zE5 ?_ | refine zE6 ?_ | refine zE7 ?_ | refine zE8 ?_) | (refine b_s (fun hb => ?_) (fun hb => ?_) <;> ((try simp only [hn1, hn2, hn3, hn4] at hb); first | (exfalso; omega) | skip)) | (first | refine g_s (fun hb => ?_) (fun hb => ?_) | refine d_s (fun hb => ?_) (fun hb => ?_)) <;> ((try simp only [hn1, hn2] at hb); rw [hb]; try simp only [hn3, hn4] at hb)
        simp only [sizes] at hs
        simp only [one1, frz_sc, Option.map_some, Option.some.injEq, AV.sc.injEq, Value.int.injEq, true_and, size]
        omega
      | cons x r =>
        have hlt : (d.length : Int) < (l.length : Int) := by rw [hl]; simp; omega
        have hltn : d.length < l.length := by omega
        have hcut : cut (encs l) (d.length * 7) 7 = enc x := by rw [hl]; exact cut_encs d x r
        have hle : d.length * 7 + 7 ≤ (encs l).length := by rw [encs_len]; omega
        have hx := ih x (by rw [hl]; simp)
        have hrg := size_rng x
        obtain ⟨k', n', c', e', t', l', ks'⟩ := x
        simp only [sizes] at hs
        simp only [enc] at hx hcut
        have w1 : IntKind.i64.wrap ((d.length : Int) + 1) = (d.length : Int) + 1 := i64 (by omega) (by omega)
        have w2 : IntKind.i64.wrap (acc + size (.mk k' n' c' e' t' l' ks')) = acc + size (.mk k' n' c' e' t' l' ks') := i64 (by omega) (by omega)
        by_cases hb : acc < 1048576
        · rw [if_neg (by omega)] at hs
          repeat' first | refine w_op rfl rfl ?_ | refine x_p rfl ?_ | refine w_sr ?_ | refine st_nil ?_ | refine w_seq ?_ | refine st_region ?_ | refine st_block ?_ | refine w_cond ?_ | refine b_t ?_ | refine b_f ?_ | refine st_skip ?_ | refine st_exit ?_ | refine st_ret ?_ | refine st_onNormN ?_ | refine st_onNormE ?_ | refine st_onNormR ?_ | refine st_onExitN ?_ | refine st_onExitR ?_ | refine st_onExitS ?_ | refine st_onExitO (by decide) ?_ | refine g_t ?_ | refine g_f rfl ?_ | refine o_op rfl ?_ | refine w_wr ?_ | refine w_wn ?_ | refine d_c rfl ?_ | refine d_on rfl ?_ | refine d_op rfl ?_ | refine d_y ?_ | refine d_gd rfl ?_ | refine d_t ?_ | refine d_f ?_ | refine d_nil ?_ | refine w_u false ?_ | refine w_dr rfl ?_ | refine d_q ?_ | refine n_0 rfl ?_ | refine d_n ?_ | refine k_p rfl rfl rfl rfl (hx) ?_ | refine w_gd rfl ?_ | ((first | refine zE1 ?_ | refine w_cl rfl rfl ?_ | refine o_cl rfl ?_ | refine d_cl rfl ?_); (conv => arg 1; try simp only [go_sem, Nat.reduceEqDiff, reduceIte, Nat.reduceAdd, Nat.reduceLeDiff, Nat.reduceMul, Int.reduceEq, Int.reduceLT, Int.reduceLE, Int.reduceNeg, Int.reduceAdd, Int.reduceSub, Nat.reduceLT, Nat.reduceBEq, Nat.reduceSub, Nat.reducePow, q0, h1, h4, h3, hlt, hltn, hcut, hle, hb, w1, w2]); first | refine zE3 ?_ | refine zE2 ?_ | refine zE4 ?_ | refine zE5 ?_ | refine zE6 ?_ | refine zE7 ?_ | refine zE8 ?_) | (refine b_s (fun hb => ?_) (fun hb => ?_) <;> ((try simp only [hn1, hn2, hn3, hn4] at hb); first | (exfalso; omega) | skip)) | (first | refine g_s (fun hb => ?_) (fun hb => ?_) | refine d_s (fun hb => ?_) (fun hb => ?_)) <;> ((try simp only [hn1, hn2] at hb); rw [hb]; try simp only [hn3, hn4] at hb)
          refine ⟨r.length, by simp, d ++ [.mk k' n' c' e' t' l' ks'], r, acc + size (.mk k' n' c' e' t' l' ks'), by simp [hl], rfl, q0, ?_, ?_, ?_, hs, by omega, by omega⟩
          all_goals simp [upd_ap, h1]
        · rw [if_pos (by omega)] at hs
          repeat' first | refine w_op rfl rfl ?_ | refine x_p rfl ?_ | refine w_sr ?_ | refine st_nil ?_ | refine w_seq ?_ | refine st_region ?_ | refine st_block ?_ | refine w_cond ?_ | refine b_t ?_ | refine b_f ?_ | refine st_skip ?_ | refine st_exit ?_ | refine st_ret ?_ | refine st_onNormN ?_ | refine st_onNormE ?_ | refine st_onNormR ?_ | refine st_onExitN ?_ | refine st_onExitR ?_ | refine st_onExitS ?_ | refine st_onExitO (by decide) ?_ | refine g_t ?_ | refine g_f rfl ?_ | refine o_op rfl ?_ | refine w_wr ?_ | refine w_wn ?_ | refine d_c rfl ?_ | refine d_on rfl ?_ | refine d_op rfl ?_ | refine d_y ?_ | refine d_gd rfl ?_ | refine d_t ?_ | refine d_f ?_ | refine d_nil ?_ | refine w_u false ?_ | refine w_dr rfl ?_ | refine d_q ?_ | refine w_gd rfl ?_ | ((first | refine zE1 ?_); (conv => arg 1; try simp only [go_sem, Nat.reduceEqDiff, reduceIte, Nat.reduceAdd, Nat.reduceLeDiff, Nat.reduceMul, Int.reduceEq, Int.reduceLT, Int.reduceLE, Int.reduceNeg, Int.reduceAdd, Int.reduceSub, Nat.reduceLT, Nat.reduceBEq, Nat.reduceSub, Nat.reducePow, q0, h1, h4, h3, hlt, hltn, hcut, hle, hb]); first | refine zE3 ?_ | refine zE2 ?_ | refine zE4 ?_ | refine zE5 ?_ | refine zE6 ?_ | refine zE7 ?_ | refine zE8 ?_) | (refine b_s (fun hb => ?_) (fun hb => ?_) <;> ((try simp only [hn1, hn2, hn3, hn4] at hb); first | (exfalso; omega) | skip)) | (first | refine g_s (fun hb => ?_) (fun hb => ?_) | refine d_s (fun hb => ?_) (fun hb => ?_)) <;> ((try simp only [hn1, hn2] at hb); rw [hb]; try simp only [hn3, hn4] at hb)
          simp only [one1, frz_sc, Option.map_some, Option.some.injEq, AV.sc.injEq, Value.int.injEq, true_and, size]
          omega
    · simp [upd_ap]
  termination_by v => v
  decreasing_by
    simp_wf
    have := List.sizeOf_lt_of_mem hx
    omega
end Go.Proofs.Bv
/-
  The reference's deep, Deep.
  Conditions: none.
-/
namespace Go.Proofs.Bv
open Go
set_option maxHeartbeats 4000000 in
set_option maxRecDepth 100000 in
theorem pc157 (G : Nat → Option (List AV)) : (v : JV) → (left : Int) → Fit v → 0 ≤ left → left ≤ 1000 → Pc (Cf G) 157 [.agg (enc v), .sc (.int .i64 left)] (.sc (.int .i64 (deep v left)))
  | .mk kk ng cf ex t l ks, left => fun hfit hl0 hl1 => by
    have hnl := hfit.1.nlist
    have ih : ∀ x ∈ l, 0 ≤ left - 1 → Pc (Cf G) 157 [.agg (enc x), .sc (.int .i64 (left - 1))] (.sc (.int .i64 (deep x (left - 1)))) := fun x hx h => pc157 G x (left - 1) (Fits_mem hfit.2 x hx) h (by omega)
    refine Pc_of (Gf_enter (C := Cf G) Tryz.func157 rfl ok157 (Nat.le_of_ble_eq_true rfl) ?_)
    simp only [Tryz.f157, Option.getD_some]
    simp only [enc]
    by_cases hc : (kk ≠ 5 ∧ kk ≠ 6) ∨ left = 0
    · have hd : deep (.mk kk ng cf ex t l ks) left = 0 := by simp only [deep, if_pos hc]
      rw [hd]
      by_cases h5 : kk = 5
      · obtain rfl : left = 0 := by omega
        subst h5
        repeat' first | refine w_op rfl rfl ?_ | refine x_p rfl ?_ | refine w_sr ?_ | refine st_nil ?_ | refine w_seq ?_ | refine st_region ?_ | refine st_block ?_ | refine w_cond ?_ | refine b_t ?_ | refine b_f ?_ | refine st_skip ?_ | refine st_exit ?_ | refine st_ret ?_ | refine st_onNormN ?_ | refine st_onNormE ?_ | refine st_onNormR ?_ | refine st_onExitN ?_ | refine st_onExitR ?_ | refine st_onExitS ?_ | refine st_onExitO (by decide) ?_ | refine g_t ?_ | refine g_f rfl ?_ | refine o_op rfl ?_ | refine w_wr ?_ | refine w_wn ?_ | refine d_c rfl ?_ | refine d_on rfl ?_ | refine d_op rfl ?_ | refine d_y ?_ | refine d_gd rfl ?_ | refine d_t ?_ | refine d_f ?_ | refine d_nil ?_ | refine w_u false ?_ | refine w_dr rfl ?_ | refine d_q ?_ | refine w_gd rfl ?_ | ((first | refine zE1 ?_); (conv => arg 1; try simp only [go_sem, Nat.reduceEqDiff, reduceIte, Nat.reduceAdd, Nat.reduceLeDiff, Nat.reduceMul, Int.reduceEq, Int.reduceLT, Int.reduceLE, Int.reduceNeg, Int.reduceAdd, Int.reduceSub, Nat.reduceLT, Nat.reduceBEq, Nat.reduceSub, Nat.reducePow]); first | refine zE3 ?_ | refine zE2 ?_ | refine zE4 ?_ | refine zE5 ?_ | refine zE6 ?_ | refine zE7 ?_ | refine zE8 ?_) | (refine b_s (fun hb => ?_) (fun hb => ?_) <;> ((try simp only [hn1, hn2, hn3, hn4] at hb); first | (exfalso; omega) | skip)) | (first | refine g_s (fun hb => ?_) (fun hb => ?_) | refine d_s (fun hb => ?_) (fun hb => ?_)) <;> ((try simp only [hn1, hn2] at hb); rw [hb]; try simp only [hn3, hn4] at hb)
        simp only [one1, frz_sc, Option.map_some]
      · by_cases h6 : kk = 6
        · obtain rfl : left = 0 := by omega
          subst h6
          repeat' first | refine w_op rfl rfl ?_ | refine x_p rfl ?_ | refine w_sr ?_ | refine st_nil ?_ | refine w_seq ?_ | refine st_region ?_ | refine st_block ?_ | refine w_cond ?_ | refine b_t ?_ | refine b_f ?_ | refine st_skip ?_ | refine st_exit ?_ | refine st_ret ?_ | refine st_onNormN ?_ | refine st_onNormE ?_ | refine st_onNormR ?_ | refine st_onExitN ?_ | refine st_onExitR ?_ | refine st_onExitS ?_ | refine st_onExitO (by decide) ?_ | refine g_t ?_ | refine g_f rfl ?_ | refine o_op rfl ?_ | refine w_wr ?_ | refine w_wn ?_ | refine d_c rfl ?_ | refine d_on rfl ?_ | refine d_op rfl ?_ | refine d_y ?_ | refine d_gd rfl ?_ | refine d_t ?_ | refine d_f ?_ | refine d_nil ?_ | refine w_u false ?_ | refine w_dr rfl ?_ | refine d_q ?_ | refine w_gd rfl ?_ | ((first | refine zE1 ?_); (conv => arg 1; try simp only [go_sem, Nat.reduceEqDiff, reduceIte, Nat.reduceAdd, Nat.reduceLeDiff, Nat.reduceMul, Int.reduceEq, Int.reduceLT, Int.reduceLE, Int.reduceNeg, Int.reduceAdd, Int.reduceSub, Nat.reduceLT, Nat.reduceBEq, Nat.reduceSub, Nat.reducePow]); first | refine zE3 ?_ | refine zE2 ?_ | refine zE4 ?_ | refine zE5 ?_ | refine zE6 ?_ | refine zE7 ?_ | refine zE8 ?_) | (refine b_s (fun hb => ?_) (fun hb => ?_) <;> ((try simp only [hn1, hn2, hn3, hn4] at hb); first | (exfalso; omega) | skip)) | (first | refine g_s (fun hb => ?_) (fun hb => ?_) | refine d_s (fun hb => ?_) (fun hb => ?_)) <;> ((try simp only [hn1, hn2] at hb); rw [hb]; try simp only [hn3, hn4] at hb)
          simp only [one1, frz_sc, Option.map_some]
        · repeat' first | refine w_op rfl rfl ?_ | refine x_p rfl ?_ | refine w_sr ?_ | refine st_nil ?_ | refine w_seq ?_ | refine st_region ?_ | refine st_block ?_ | refine w_cond ?_ | refine b_t ?_ | refine b_f ?_ | refine st_skip ?_ | refine st_exit ?_ | refine st_ret ?_ | refine st_onNormN ?_ | refine st_onNormE ?_ | refine st_onNormR ?_ | refine st_onExitN ?_ | refine st_onExitR ?_ | refine st_onExitS ?_ | refine st_onExitO (by decide) ?_ | refine g_t ?_ | refine g_f rfl ?_ | refine o_op rfl ?_ | refine w_wr ?_ | refine w_wn ?_ | refine d_c rfl ?_ | refine d_on rfl ?_ | refine d_op rfl ?_ | refine d_y ?_ | refine d_gd rfl ?_ | refine d_t ?_ | refine d_f ?_ | refine d_nil ?_ | refine w_u false ?_ | refine w_dr rfl ?_ | refine d_q ?_ | refine w_gd rfl ?_ | ((first | refine zE1 ?_); (conv => arg 1; try simp only [go_sem, Nat.reduceEqDiff, reduceIte, Nat.reduceAdd, Nat.reduceLeDiff, Nat.reduceMul, Int.reduceEq, Int.reduceLT, Int.reduceLE, Int.reduceNeg, Int.reduceAdd, Int.reduceSub, Nat.reduceLT, Nat.reduceBEq, Nat.reduceSub, Nat.reducePow, h5, h6]); first | refine zE3 ?_ | refine zE2 ?_ | refine zE4 ?_ | refine zE5 ?_ | refine zE6 ?_ | refine zE7 ?_ | refine zE8 ?_) | (refine b_s (fun hb => ?_) (fun hb => ?_) <;> ((try simp only [hn1, hn2, hn3, hn4] at hb); first | (exfalso; omega) | skip)) | (first | refine g_s (fun hb => ?_) (fun hb => ?_) | refine d_s (fun hb => ?_) (fun hb => ?_)) <;> ((try simp only [hn1, hn2] at hb); rw [hb]; try simp only [hn3, hn4] at hb)
          simp only [one1, frz_sc, Option.map_some]
    · have hz : ¬ left = 0 := by omega
      have hd : deep (.mk kk ng cf ex t l ks) left = deeps l (left - 1) 0 + 1 := by simp only [deep, if_neg hc]
      rw [hd]
      have h56 : kk = 5 ∨ kk = 6 := by omega
      clear hc hd
      have wl : IntKind.i64.wrap (left - 1) = left - 1 := i64 (by omega) (by omega)
      rcases h56 with rfl | rfl
      all_goals
        repeat' first | refine w_op rfl rfl ?_ | refine x_p rfl ?_ | refine w_sr ?_ | refine st_nil ?_ | refine w_seq ?_ | refine st_region ?_ | refine st_block ?_ | refine w_cond ?_ | refine b_t ?_ | refine b_f ?_ | refine st_skip ?_ | refine st_exit ?_ | refine st_ret ?_ | refine st_onNormN ?_ | refine st_onNormE ?_ | refine st_onNormR ?_ | refine st_onExitN ?_ | refine st_onExitR ?_ | refine st_onExitS ?_ | refine st_onExitO (by decide) ?_ | refine g_t ?_ | refine g_f rfl ?_ | refine o_op rfl ?_ | refine w_wr ?_ | refine w_wn ?_ | refine d_c rfl ?_ | refine d_on rfl ?_ | refine d_op rfl ?_ | refine d_y ?_ | refine d_gd rfl ?_ | refine d_t ?_ | refine d_f ?_ | refine d_nil ?_ | refine w_u false ?_ | refine w_dr rfl ?_ | refine d_q ?_ | refine w_gd rfl ?_ | ((first | refine zE1 ?_); (conv => arg 1; try simp only [go_sem, Nat.reduceEqDiff, reduceIte, Nat.reduceAdd, Nat.reduceLeDiff, Nat.reduceMul, Int.reduceEq, Int.reduceLT, Int.reduceLE, Int.reduceNeg, Int.reduceAdd, Int.reduceSub, Nat.reduceLT, Nat.reduceBEq, Nat.reduceSub, Nat.reducePow, hz]); first | refine zE3 ?_ | refine zE2 ?_ | refine zE4 ?_ | refine zE5 ?_ | refine zE6 ?_ | refine zE7 ?_ | refine zE8 ?_) | (refine b_s (fun hb => ?_) (fun hb => ?_) <;> ((try simp only [hn1, hn2, hn3, hn4] at hb); first | (exfalso; omega) | skip)) | (first | refine g_s (fun hb => ?_) (fun hb => ?_) | refine d_s (fun hb => ?_) (fun hb => ?_)) <;> ((try simp only [hn1, hn2] at hb); rw [hb]; try simp only [hn3, hn4] at hb)
        refine Gc_loop_inv (fun m s => ∃ d r acc, l = d ++ r ∧ m = r.length ∧ (∃ k0, s.h 0 = some (.cells [.sc (.int .i64 k0), .sc (.bool ng), .psl (u32s cf) cf.length, .sc (.int .i64 ex), .sc (.string t), .psl (encs l) l.length, .psl (strs ks) ks.length] 0 false)) ∧ s.T 1 = .sc (.int .i64 left) ∧ s.T 2 = .ptr 0 0 ∧ s.T 6 = .sc (.int .i64 d.length) ∧ s.T 5 = .sc (.int .i64 acc) ∧ deeps r (left - 1) acc = deeps l (left - 1) 0 ∧ 0 ≤ acc ∧ acc ≤ 1000) ?_ l.length _ ⟨[], l, 0, rfl, rfl, ⟨_, rfl⟩, ?_⟩
        · rintro m ⟨T, h, n⟩ ⟨d, r, acc, hl, rfl, ⟨k0, q0⟩, h1, h2, h6, h5, hs, ha1, ha2⟩
          simp only at q0 h1 h2 h6 h5
          cases r with
          | nil =>
            have hge : ¬ (d.length : Int) < (l.length : Int) := by rw [hl]; simp
            simp only [deeps] at hs
            have w1 : IntKind.i64.wrap (1 + acc) = acc + 1 := by rw [i64 (by omega) (by omega)]; omega
            repeat' first | refine w_op rfl rfl ?_ | refine x_p rfl ?_ | refine w_sr ?_ | refine st_nil ?_ | refine w_seq ?_ | refine st_region ?_ | refine st_block ?_ | refine w_cond ?_ | refine b_t ?_ | refine b_f ?_ | refine st_skip ?_ | refine st_exit ?_ | refine st_ret ?_ | refine st_onNormN ?_ | refine st_onNormE ?_ | refine st_onNormR ?_ | refine st_onExitN ?_ | refine st_onExitR ?_ | refine st_onExitS ?_ | refine st_onExitO (by decide) ?_ | refine g_t ?_ | refine g_f rfl ?_ | refine o_op rfl ?_ | refine w_wr ?_ | refine w_wn ?_ | refine d_c rfl ?_ | refine d_on rfl ?_ | refine d_op rfl ?_ | refine d_y ?_ | refine d_gd rfl ?_ | refine d_t ?_ | refine d_f ?_ | refine d_nil ?_ | refine w_u false ?_ | refine w_dr rfl ?_ | refine d_q ?_ | refine w_gd rfl ?_ | ((first | refine zE1 ?_); (conv => arg 1; try simp only [go_sem, Nat.reduceEqDiff, reduceIte, Nat.reduceAdd, Nat.reduceLeDiff, Nat.reduceMul, Int.reduceEq, Int.reduceLT, Int.reduceLE, Int.reduceNeg, Int.reduceAdd, Int.reduceSub, Nat.reduceLT, Nat.reduceBEq, Nat.reduceSub, Nat.reducePow, q0, h1, h2, h6, h5, hge, w1]); first | refine zE3 ?_ | refine zE2 ?_ | refine zE4 ?_ | refine zE5 ?_ | refine zE6 ?_ | refine zE7 ?_ | refine zE8 ?_) | (refine b_s (fun hb => ?_) (fun hb => ?_) <;> ((try simp only [hn1, hn2, hn3, hn4] at hb); first | (exfalso; omega) | skip)) | (first | refine g_s (fun hb => ?_) (fun hb => ?_) | refine d_s (fun hb => ?_) (fun hb => ?_)) <;> ((try simp only [hn1, hn2] at hb); rw [hb]; try simp only [hn3, hn4] at hb)
            simp only [one1, frz_sc, Option.map_some, ← hs]
          | cons x r =>
            have hlt : (d.length : Int) < (l.length : Int) := by rw [hl]; simp; omega
            have hltn : d.length < l.length := by omega
            have hcut : cut (encs l) (d.length * 7) 7 = enc x := by rw [hl]; exact cut_encs d x r
            have hle : d.length * 7 + 7 ≤ (encs l).length := by rw [encs_len]; omega
            have hx := ih x (by rw [hl]; simp) (by omega)
            have hrg := deep_rng x (left - 1) (by omega)
            obtain ⟨k', n', c', e', t', l', ks'⟩ := x
            simp only [deeps] at hs
            simp only [enc] at hx hcut
            have w1 : IntKind.i64.wrap ((d.length : Int) + 1) = (d.length : Int) + 1 := i64 (by omega) (by omega)
            repeat' first | refine w_op rfl rfl ?_ | refine x_p rfl ?_ | refine w_sr ?_ | refine st_nil ?_ | refine w_seq ?_ | refine st_region ?_ | refine st_block ?_ | refine w_cond ?_ | refine b_t ?_ | refine b_f ?_ | refine st_skip ?_ | refine st_exit ?_ | refine st_ret ?_ | refine st_onNormN ?_ | refine st_onNormE ?_ | refine st_onNormR ?_ | refine st_onExitN ?_ | refine st_onExitR ?_ | refine st_onExitS ?_ | refine st_onExitO (by decide) ?_ | refine g_t ?_ | refine g_f rfl ?_ | refine o_op rfl ?_ | refine w_wr ?_ | refine w_wn ?_ | refine d_c rfl ?_ | refine d_on rfl ?_ | refine d_op rfl ?_ | refine d_y ?_ | refine d_gd rfl ?_ | refine d_t ?_ | refine d_f ?_ | refine d_nil ?_ | refine w_u false ?_ | refine w_dr rfl ?_ | refine d_q ?_ | refine n_0 rfl ?_ | refine d_n ?_ | refine k_p rfl rfl rfl rfl (hx) ?_ | refine w_gd rfl ?_ | ((first | refine zE1 ?_ | refine w_cl rfl rfl ?_ | refine o_cl rfl ?_ | refine d_cl rfl ?_); (conv => arg 1; try simp only [go_sem, Nat.reduceEqDiff, reduceIte, Nat.reduceAdd, Nat.reduceLeDiff, Nat.reduceMul, Int.reduceEq, Int.reduceLT, Int.reduceLE, Int.reduceNeg, Int.reduceAdd, Int.reduceSub, Nat.reduceLT, Nat.reduceBEq, Nat.reduceSub, Nat.reducePow, q0, h1, h2, h6, h5, hlt, hltn, hcut, hle, w1, wl]); first | refine zE3 ?_ | refine zE2 ?_ | refine zE4 ?_ | refine zE5 ?_ | refine zE6 ?_ | refine zE7 ?_ | refine zE8 ?_) | (refine b_s (fun hb => ?_) (fun hb => ?_) <;> ((try simp only [hn1, hn2, hn3, hn4] at hb); first | (exfalso; omega) | skip)) | (first | refine g_s (fun hb => ?_) (fun hb => ?_) | refine d_s (fun hb => ?_) (fun hb => ?_)) <;> ((try simp only [hn1, hn2] at hb); rw [hb]; try simp only [hn3, hn4] at hb)
            refine ⟨r.length, by simp, d ++ [.mk k' n' c' e' t' l' ks'], r, max acc (deep (.mk k' n' c' e' t' l' ks') (left - 1)), by simp [hl], rfl, ⟨k0, q0⟩, ?_, ?_, ?_, ?_, hs, by omega, by omega⟩
            all_goals simp [upd_ap, h1, h2]
        · simp [upd_ap, argsT]
  termination_by v => v
  decreasing_by
    simp_wf
    have := List.sizeOf_lt_of_mem hx
    omega
set_option maxRecDepth 100000 in
theorem pc98 (G : Nat → Option (List AV)) (v : JV) (hfit : Fit v) : Pc (Cf G) 98 [.agg (enc v)] (.sc (.int .i64 (deep v 1000))) := by
  have h1 := pc157 G v 1000 hfit (by omega) (by omega)
  obtain ⟨k, ng, cf, ex, t, l, ks⟩ := v
  simp only [enc] at h1 ⊢
  refine Pc_of (Gf_enter (C := Cf G) Tryz.func98 rfl ok98 (Nat.le_of_ble_eq_true rfl) ?_)
  simp only [Tryz.f98, Option.getD_some]
  repeat' first | refine w_op rfl rfl ?_ | refine x_p rfl ?_ | refine w_sr ?_ | refine st_nil ?_ | refine w_seq ?_ | refine st_region ?_ | refine st_block ?_ | refine w_cond ?_ | refine b_t ?_ | refine b_f ?_ | refine st_skip ?_ | refine st_exit ?_ | refine st_ret ?_ | refine st_onNormN ?_ | refine st_onNormE ?_ | refine st_onNormR ?_ | refine st_onExitN ?_ | refine st_onExitR ?_ | refine st_onExitS ?_ | refine st_onExitO (by decide) ?_ | refine g_t ?_ | refine g_f rfl ?_ | refine o_op rfl ?_ | refine w_wr ?_ | refine w_wn ?_ | refine d_c rfl ?_ | refine d_on rfl ?_ | refine d_op rfl ?_ | refine d_y ?_ | refine d_gd rfl ?_ | refine d_t ?_ | refine d_f ?_ | refine d_nil ?_ | refine w_u false ?_ | refine w_dr rfl ?_ | refine d_q ?_ | refine n_0 rfl ?_ | refine d_n ?_ | refine k_p rfl rfl rfl rfl (h1) ?_ | refine w_gd rfl ?_ | ((first | refine zE1 ?_ | refine w_cl rfl rfl ?_ | refine o_cl rfl ?_ | refine d_cl rfl ?_); (conv => arg 1; try simp only [go_sem, Nat.reduceEqDiff, reduceIte, Nat.reduceAdd, Nat.reduceLeDiff, Nat.reduceMul, Int.reduceEq, Int.reduceLT, Int.reduceLE, Int.reduceNeg, Int.reduceAdd, Int.reduceSub, Nat.reduceLT, Nat.reduceBEq, Nat.reduceSub, Nat.reducePow]); first | refine zE3 ?_ | refine zE2 ?_ | refine zE4 ?_ | refine zE5 ?_ | refine zE6 ?_ | refine zE7 ?_ | refine zE8 ?_) | (refine b_s (fun hb => ?_) (fun hb => ?_) <;> ((try simp only [hn1, hn2, hn3, hn4] at hb); first | (exfalso; omega) | skip)) | (first | refine g_s (fun hb => ?_) (fun hb => ?_) | refine d_s (fun hb => ?_) (fun hb => ?_)) <;> ((try simp only [hn1, hn2] at hb); rw [hb]; try simp only [hn3, hn4] at hb)
  simp only [one1, frz_sc, Option.map_some]
end Go.Proofs.Bv
/-
  The reference's Same of decimals.
  Conditions: none.
-/
namespace Go.Proofs.Bv
open Go
theorem ok48 : codeOk 45 (Tryz.f48.body.getD .skip) = true := by kernel_rfl
def sameL : List Int → List Int → Bool
  | x :: a, y :: b => decide (x = y) && sameL a b
  | _, _ => true
theorem sameL_self : (a : List Int) → sameL a a = true
  | [] => rfl
  | x :: a => by simp [sameL, sameL_self a]
def sameD (n1 : Bool) (c1 : List Int) (e1 : Int) (n2 : Bool) (c2 : List Int) (e2 : Int) : Bool := decide (n1 = n2) && decide (e1 = e2) && decide (c1.length = c2.length) && sameL c1 c2
theorem pureRun_bind {P : Program} {α β : Type} (f : α → Sem β) (s : Sem α) : ∀ {a : α}, pureRun P s = some a → pureRun P (s.bind f) = pureRun P (f a) := by
  induction s with
  | pure x =>
    intro a h
    simp only [pureRun, Option.some.injEq] at h
    subst h
    rfl
  | program k ih =>
    intro a h
    have := ih P (a := a) (by simpa only [pureRun] using h)
    simpa only [Sem.bind, pureRun] using this
  | _ => intro a h; simp [pureRun] at h
theorem eq_bool {P : Program} {t : TypeId} (ht : P.underlying t = some .bool) (k : Nat) (a b : Bool) : pureRun P (Op.equalIn (k + 1) t (.bool a) (.bool b)) = some (a == b) := by
  simp only [Op.equalIn, Go.underlying, program, bind, Sem.bind, pureRun, ht, pure]
theorem ev_neqb {P : Program} {t : TypeId} (ht : P.underlying t = some .bool) {xo yo : Operand} {a b : Bool} : vbin P .neq t xo yo (.sc (.bool a)) (.sc (.bool b)) = some (.sc (.bool (!(a == b)))) := by
  have h1 := eq_bool ht 9999 a b
  have h2 : pureRun P (do eqGuard .neq t xo yo (.bool a) (.bool b); binOp .neq t (.bool a) (.bool b)) = some (.bool (!(a == b))) := by
    have e : (do eqGuard .neq t xo yo (.bool a) (.bool b); binOp .neq t (.bool a) (.bool b) : Sem Value) = (Op.equalIn (9999 + 1) t (.bool a) (.bool b)).bind fun c => Sem.pure (.bool !c) := rfl
    rw [e, pureRun_bind _ _ h1]
    rfl
  simp only [vbin, toVal, h2, Option.bind_some, scal, plain, if_true]
theorem ev_eqlb {P : Program} {t : TypeId} (ht : P.underlying t = some .bool) {xo yo : Operand} {a b : Bool} : vbin P .eql t xo yo (.sc (.bool a)) (.sc (.bool b)) = some (.sc (.bool (a == b))) := by
  have h1 := eq_bool ht 9999 a b
  have h2 : pureRun P (do eqGuard .eql t xo yo (.bool a) (.bool b); binOp .eql t (.bool a) (.bool b)) = some (.bool (a == b)) := by
    have e : (do eqGuard .eql t xo yo (.bool a) (.bool b); binOp .eql t (.bool a) (.bool b) : Sem Value) = (Op.equalIn (9999 + 1) t (.bool a) (.bool b)).bind fun c => Sem.pure (.bool c) := rfl
    rw [e, pureRun_bind _ _ h1]
    rfl
  simp only [vbin, toVal, h2, Option.bind_some, scal, plain, if_true]
set_option maxHeartbeats 4000000 in
set_option maxRecDepth 100000 in
theorem pc48 (G : Nat → Option (List AV)) (n1 n2 : Bool) (c1 c2 : List Int) (e1 e2 : Int) (hl : c1.length ≤ 140737488355328) :
    Pc (Cf G) 48 [.agg [.sc (.bool n1), .psl (u32s c1) c1.length, .sc (.int .i64 e1)], .agg [.sc (.bool n2), .psl (u32s c2) c2.length, .sc (.int .i64 e2)]] (.sc (.bool (sameD n1 c1 e1 n2 c2 e2))) := by
  have hn := @ev_neqb Tryz.prog 4 Tryz.underlying4
  by_cases hc : n1 = n2 ∧ e1 = e2 ∧ c1.length = c2.length
  · obtain ⟨rfl, rfl, hlen⟩ := hc
    have hlen' : (c1.length : Int) = (c2.length : Int) := by omega
    have hb : (n1 == n1) = true := by simp
    have hD : sameD n1 c1 e1 n1 c2 e1 = sameL c1 c2 := by simp [sameD, hlen]
    rw [hD]
    refine Pc_of (Gf_enter (C := Cf G) Tryz.func48 rfl ok48 (Nat.le_of_ble_eq_true rfl) ?_)
    simp only [Tryz.f48, Option.getD_some]
    repeat' first | refine w_op rfl rfl ?_ | refine x_p rfl ?_ | refine w_sr ?_ | refine st_nil ?_ | refine w_seq ?_ | refine st_region ?_ | refine st_block ?_ | refine w_cond ?_ | refine b_t ?_ | refine b_f ?_ | refine st_skip ?_ | refine st_exit ?_ | refine st_ret ?_ | refine st_onNormN ?_ | refine st_onNormE ?_ | refine st_onNormR ?_ | refine st_onExitN ?_ | refine st_onExitR ?_ | refine st_onExitS ?_ | refine st_onExitO (by decide) ?_ | refine g_t ?_ | refine g_f rfl ?_ | refine o_op rfl ?_ | refine w_wr ?_ | refine w_wn ?_ | refine d_c rfl ?_ | refine d_on rfl ?_ | refine d_op rfl ?_ | refine d_y ?_ | refine d_gd rfl ?_ | refine d_t ?_ | refine d_f ?_ | refine d_nil ?_ | refine w_u false ?_ | refine w_dr rfl ?_ | refine d_q ?_ | refine w_gd rfl ?_ | ((first | refine zE1 ?_); (conv => arg 1; try simp only [go_sem, Nat.reduceEqDiff, reduceIte, Nat.reduceAdd, Nat.reduceLeDiff, Nat.reduceMul, Int.reduceEq, Int.reduceLT, Int.reduceLE, Int.reduceNeg, Int.reduceAdd, Int.reduceSub, Nat.reduceLT, Nat.reduceBEq, Nat.reduceSub, Nat.reducePow, hn, hlen', hb]); first | refine zE3 ?_ | refine zE2 ?_ | refine zE4 ?_ | refine zE5 ?_ | refine zE6 ?_ | refine zE7 ?_ | refine zE8 ?_) | (refine b_s (fun hb => ?_) (fun hb => ?_) <;> ((try simp only [hn1, hn2, hn3, hn4] at hb); first | (exfalso; omega) | skip)) | (first | refine g_s (fun hb => ?_) (fun hb => ?_) | refine d_s (fun hb => ?_) (fun hb => ?_)) <;> ((try simp only [hn1, hn2] at hb); rw [hb]; try simp only [hn3, hn4] at hb)
    refine Gc_loop_inv (fun m st => ∃ d r d2 r2, c1 = d ++ r ∧ c2 = d2 ++ r2 ∧ d.length = d2.length ∧ r.length = r2.length ∧ m = r.length ∧ sameL r r2 = sameL c1 c2 ∧ st.T 2 = .ptr 0 0 ∧ st.T 3 = .ptr 1 0 ∧ st.T 5 = .sc (.int .i64 d.length) ∧
      st.h 0 = some (.cells [.sc (.bool n1), .psl (u32s c1) c1.length, .sc (.int .i64 e1)] 0 false) ∧ st.h 1 = some (.cells [.sc (.bool n1), .psl (u32s c2) c2.length, .sc (.int .i64 e1)] 0 false)) ?_ c1.length _ ⟨[], c1, [], c2, rfl, rfl, rfl, hlen, rfl, rfl, ?_⟩
    · rintro m ⟨T, h, n⟩ ⟨d, r, d2, r2, h1, h2, hdl, hrl, rfl, hs, t2, t3, t5, q0, q1⟩
      simp only at t2 t3 t5 q0 q1
      cases r with
      | nil =>
        have hge : ¬ (d.length : Int) < (c1.length : Int) := by rw [h1]; simp
        repeat' first | refine w_op rfl rfl ?_ | refine x_p rfl ?_ | refine w_sr ?_ | refine st_nil ?_ | refine w_seq ?_ | refine st_region ?_ | refine st_block ?_ | refine w_cond ?_ | refine b_t ?_ | refine b_f ?_ | refine st_skip ?_ | refine st_exit ?_ | refine st_ret ?_ | refine st_onNormN ?_ | refine st_onNormE ?_ | refine st_onNormR ?_ | refine st_onExitN ?_ | refine st_onExitR ?_ | refine st_onExitS ?_ | refine st_onExitO (by decide) ?_ | refine g_t ?_ | refine g_f rfl ?_ | refine o_op rfl ?_ | refine w_wr ?_ | refine w_wn ?_ | refine d_c rfl ?_ | refine d_on rfl ?_ | refine d_op rfl ?_ | refine d_y ?_ | refine d_gd rfl ?_ | refine d_t ?_ | refine d_f ?_ | refine d_nil ?_ | refine w_u false ?_ | refine w_dr rfl ?_ | refine d_q ?_ | refine w_gd rfl ?_ | ((first | refine zE1 ?_); (conv => arg 1; try simp only [go_sem, Nat.reduceEqDiff, reduceIte, Nat.reduceAdd, Nat.reduceLeDiff, Nat.reduceMul, Int.reduceEq, Int.reduceLT, Int.reduceLE, Int.reduceNeg, Int.reduceAdd, Int.reduceSub, Nat.reduceLT, Nat.reduceBEq, Nat.reduceSub, Nat.reducePow, t2, t3, t5, q0, q1, hge]); first | refine zE3 ?_ | refine zE2 ?_ | refine zE4 ?_ | refine zE5 ?_ | refine zE6 ?_ | refine zE7 ?_ | refine zE8 ?_) | (refine b_s (fun hb => ?_) (fun hb => ?_) <;> ((try simp only [hn1, hn2, hn3, hn4] at hb); first | (exfalso; omega) | skip)) | (first | refine g_s (fun hb => ?_) (fun hb => ?_) | refine d_s (fun hb => ?_) (fun hb => ?_)) <;> ((try simp only [hn1, hn2] at hb); rw [hb]; try simp only [hn3, hn4] at hb)
        simp only [one1, frz_s, Option.map_some, ← hs]
        rfl
      | cons x r =>
        cases r2 with
        | nil => simp at hrl
        | cons y r2 =>
          have hlt : (d.length : Int) < (c1.length : Int) := by rw [h1]; simp; omega
          have hlt1 : d.length < c1.length := by omega
          have hlt2 : d.length < c2.length := by omega
          have hx : (u32s c1)[d.length * 1]? = some (.sc (.int .u32 x)) := by rw [h1]; simp [u32s]
          have hy : (u32s c2)[d.length * 1]? = some (.sc (.int .u32 y)) := by rw [h2, hdl]; simp [u32s]
          have w1 : IntKind.i64.wrap ((d.length : Int) + 1) = (d.length : Int) + 1 := i64 (by omega) (by omega)
          simp only [sameL] at hs
          by_cases hxy : x = y
          · subst hxy
            repeat' first | refine w_op rfl rfl ?_ | refine x_p rfl ?_ | refine w_sr ?_ | refine st_nil ?_ | refine w_seq ?_ | refine st_region ?_ | refine st_block ?_ | refine w_cond ?_ | refine b_t ?_ | refine b_f ?_ | refine st_skip ?_ | refine st_exit ?_ | refine st_ret ?_ | refine st_onNormN ?_ | refine st_onNormE ?_ | refine st_onNormR ?_ | refine st_onExitN ?_ | refine st_onExitR ?_ | refine st_onExitS ?_ | refine st_onExitO (by decide) ?_ | refine g_t ?_ | refine g_f rfl ?_ | refine o_op rfl ?_ | refine w_wr ?_ | refine w_wn ?_ | refine d_c rfl ?_ | refine d_on rfl ?_ | refine d_op rfl ?_ | refine d_y ?_ | refine d_gd rfl ?_ | refine d_t ?_ | refine d_f ?_ | refine d_nil ?_ | refine w_u false ?_ | refine w_dr rfl ?_ | refine d_q ?_ | refine w_gd rfl ?_ | ((first | refine zE1 ?_); (conv => arg 1; try simp only [go_sem, Nat.reduceEqDiff, reduceIte, Nat.reduceAdd, Nat.reduceLeDiff, Nat.reduceMul, Int.reduceEq, Int.reduceLT, Int.reduceLE, Int.reduceNeg, Int.reduceAdd, Int.reduceSub, Nat.reduceLT, Nat.reduceBEq, Nat.reduceSub, Nat.reducePow, t2, t3, t5, q0, q1, hlt, hlt1, hlt2, hx, hy, w1]); first | refine zE3 ?_ | refine zE2 ?_ | refine zE4 ?_ | refine zE5 ?_ | refine zE6 ?_ | refine zE7 ?_ | refine zE8 ?_) | (refine b_s (fun hb => ?_) (fun hb => ?_) <;> ((try simp only [hn1, hn2, hn3, hn4] at hb); first | (exfalso; omega) | skip)) | (first | refine g_s (fun hb => ?_) (fun hb => ?_) | refine d_s (fun hb => ?_) (fun hb => ?_)) <;> ((try simp only [hn1, hn2] at hb); rw [hb]; try simp only [hn3, hn4] at hb)
            refine ⟨r.length, by simp, d ++ [x], r, d2 ++ [x], r2, by simp [h1], by simp [h2], by simp [hdl], by simpa using hrl, rfl, by simpa using hs, ?_, ?_, ?_, q0, q1⟩
            all_goals simp [upd_ap, tAt, t2, t3]
          · repeat' first | refine w_op rfl rfl ?_ | refine x_p rfl ?_ | refine w_sr ?_ | refine st_nil ?_ | refine w_seq ?_ | refine st_region ?_ | refine st_block ?_ | refine w_cond ?_ | refine b_t ?_ | refine b_f ?_ | refine st_skip ?_ | refine st_exit ?_ | refine st_ret ?_ | refine st_onNormN ?_ | refine st_onNormE ?_ | refine st_onNormR ?_ | refine st_onExitN ?_ | refine st_onExitR ?_ | refine st_onExitS ?_ | refine st_onExitO (by decide) ?_ | refine g_t ?_ | refine g_f rfl ?_ | refine o_op rfl ?_ | refine w_wr ?_ | refine w_wn ?_ | refine d_c rfl ?_ | refine d_on rfl ?_ | refine d_op rfl ?_ | refine d_y ?_ | refine d_gd rfl ?_ | refine d_t ?_ | refine d_f ?_ | refine d_nil ?_ | refine w_u false ?_ | refine w_dr rfl ?_ | refine d_q ?_ | refine w_gd rfl ?_ | ((first | refine zE1 ?_); (conv => arg 1; try simp only [go_sem, Nat.reduceEqDiff, reduceIte, Nat.reduceAdd, Nat.reduceLeDiff, Nat.reduceMul, Int.reduceEq, Int.reduceLT, Int.reduceLE, Int.reduceNeg, Int.reduceAdd, Int.reduceSub, Nat.reduceLT, Nat.reduceBEq, Nat.reduceSub, Nat.reducePow, t2, t3, t5, q0, q1, hlt, hlt1, hlt2, hx, hy, hxy, w1]); first | refine zE3 ?_ | refine zE2 ?_ | refine zE4 ?_ | refine zE5 ?_ | refine zE6 ?_ | refine zE7 ?_ | refine zE8 ?_) | (refine b_s (fun hb => ?_) (fun hb => ?_) <;> ((try simp only [hn1, hn2, hn3, hn4] at hb); first | (exfalso; omega) | skip)) | (first | refine g_s (fun hb => ?_) (fun hb => ?_) | refine d_s (fun hb => ?_) (fun hb => ?_)) <;> ((try simp only [hn1, hn2] at hb); rw [hb]; try simp only [hn3, hn4] at hb)
            simp only [one1, frz_s, Option.map_some, ← hs]
            simp [hxy]
    · simp [upd_ap, argsT]
  · have hD : sameD n1 c1 e1 n2 c2 e2 = false := by
      unfold sameD
      simp
      intro h1 h2 h3
      exact absurd ⟨h1, h2, h3⟩ hc
    rw [hD]
    by_cases hn1 : n1 = n2
    · subst hn1
      have hb : (n1 == n1) = true := by simp
      by_cases he : e1 = e2
      · have hl' : ¬ (c1.length : Int) = (c2.length : Int) := fun e => hc ⟨rfl, he, by omega⟩
        refine Pc_of (Gf_enter (C := Cf G) Tryz.func48 rfl ok48 (Nat.le_of_ble_eq_true rfl) ?_)
        simp only [Tryz.f48, Option.getD_some]
        repeat' first | refine w_op rfl rfl ?_ | refine x_p rfl ?_ | refine w_sr ?_ | refine st_nil ?_ | refine w_seq ?_ | refine st_region ?_ | refine st_block ?_ | refine w_cond ?_ | refine b_t ?_ | refine b_f ?_ | refine st_skip ?_ | refine st_exit ?_ | refine st_ret ?_ | refine st_onNormN ?_ | refine st_onNormE ?_ | refine st_onNormR ?_ | refine st_onExitN ?_ | refine st_onExitR ?_ | refine st_onExitS ?_ | refine st_onExitO (by decide) ?_ | refine g_t ?_ | refine g_f rfl ?_ | refine o_op rfl ?_ | refine w_wr ?_ | refine w_wn ?_ | refine d_c rfl ?_ | refine d_on rfl ?_ | refine d_op rfl ?_ | refine d_y ?_ | refine d_gd rfl ?_ | refine d_t ?_ | refine d_f ?_ | refine d_nil ?_ | refine w_u false ?_ | refine w_dr rfl ?_ | refine d_q ?_ | refine w_gd rfl ?_ | ((first | refine zE1 ?_); (conv => arg 1; try simp only [go_sem, Nat.reduceEqDiff, reduceIte, Nat.reduceAdd, Nat.reduceLeDiff, Nat.reduceMul, Int.reduceEq, Int.reduceLT, Int.reduceLE, Int.reduceNeg, Int.reduceAdd, Int.reduceSub, Nat.reduceLT, Nat.reduceBEq, Nat.reduceSub, Nat.reducePow, hn, hb, he, hl']); first | refine zE3 ?_ | refine zE2 ?_ | refine zE4 ?_ | refine zE5 ?_ | refine zE6 ?_ | refine zE7 ?_ | refine zE8 ?_) | (refine b_s (fun hb => ?_) (fun hb => ?_) <;> ((try simp only [hn1, hn2, hn3, hn4] at hb); first | (exfalso; omega) | skip)) | (first | refine g_s (fun hb => ?_) (fun hb => ?_) | refine d_s (fun hb => ?_) (fun hb => ?_)) <;> ((try simp only [hn1, hn2] at hb); rw [hb]; try simp only [hn3, hn4] at hb)
        simp only [one1, frz_s, Option.map_some]
      · refine Pc_of (Gf_enter (C := Cf G) Tryz.func48 rfl ok48 (Nat.le_of_ble_eq_true rfl) ?_)
        simp only [Tryz.f48, Option.getD_some]
        repeat' first | refine w_op rfl rfl ?_ | refine x_p rfl ?_ | refine w_sr ?_ | refine st_nil ?_ | refine w_seq ?_ | refine st_region ?_ | refine st_block ?_ | refine w_cond ?_ | refine b_t ?_ | refine b_f ?_ | refine st_skip ?_ | refine st_exit ?_ | refine st_ret ?_ | refine st_onNormN ?_ | refine st_onNormE ?_ | refine st_onNormR ?_ | refine st_onExitN ?_ | refine st_onExitR ?_ | refine st_onExitS ?_ | refine st_onExitO (by decide) ?_ | refine g_t ?_ | refine g_f rfl ?_ | refine o_op rfl ?_ | refine w_wr ?_ | refine w_wn ?_ | refine d_c rfl ?_ | refine d_on rfl ?_ | refine d_op rfl ?_ | refine d_y ?_ | refine d_gd rfl ?_ | refine d_t ?_ | refine d_f ?_ | refine d_nil ?_ | refine w_u false ?_ | refine w_dr rfl ?_ | refine d_q ?_ | refine w_gd rfl ?_ | ((first | refine zE1 ?_); (conv => arg 1; try simp only [go_sem, Nat.reduceEqDiff, reduceIte, Nat.reduceAdd, Nat.reduceLeDiff, Nat.reduceMul, Int.reduceEq, Int.reduceLT, Int.reduceLE, Int.reduceNeg, Int.reduceAdd, Int.reduceSub, Nat.reduceLT, Nat.reduceBEq, Nat.reduceSub, Nat.reducePow, hn, hb, he]); first | refine zE3 ?_ | refine zE2 ?_ | refine zE4 ?_ | refine zE5 ?_ | refine zE6 ?_ | refine zE7 ?_ | refine zE8 ?_) | (refine b_s (fun hb => ?_) (fun hb => ?_) <;> ((try simp only [hn1, hn2, hn3, hn4] at hb); first | (exfalso; omega) | skip)) | (first | refine g_s (fun hb => ?_) (fun hb => ?_) | refine d_s (fun hb => ?_) (fun hb => ?_)) <;> ((try simp only [hn1, hn2] at hb); rw [hb]; try simp only [hn3, hn4] at hb)
        simp only [one1, frz_s, Option.map_some]
    · have hb : (n1 == n2) = false := by simp [hn1]
      refine Pc_of (Gf_enter (C := Cf G) Tryz.func48 rfl ok48 (Nat.le_of_ble_eq_true rfl) ?_)
      simp only [Tryz.f48, Option.getD_some]
      repeat' first | refine w_op rfl rfl ?_ | refine x_p rfl ?_ | refine w_sr ?_ | refine st_nil ?_ | refine w_seq ?_ | refine st_region ?_ | refine st_block ?_ | refine w_cond ?_ | refine b_t ?_ | refine b_f ?_ | refine st_skip ?_ | refine st_exit ?_ | refine st_ret ?_ | refine st_onNormN ?_ | refine st_onNormE ?_ | refine st_onNormR ?_ | refine st_onExitN ?_ | refine st_onExitR ?_ | refine st_onExitS ?_ | refine st_onExitO (by decide) ?_ | refine g_t ?_ | refine g_f rfl ?_ | refine o_op rfl ?_ | refine w_wr ?_ | refine w_wn ?_ | refine d_c rfl ?_ | refine d_on rfl ?_ | refine d_op rfl ?_ | refine d_y ?_ | refine d_gd rfl ?_ | refine d_t ?_ | refine d_f ?_ | refine d_nil ?_ | refine w_u false ?_ | refine w_dr rfl ?_ | refine d_q ?_ | refine w_gd rfl ?_ | ((first | refine zE1 ?_); (conv => arg 1; try simp only [go_sem, Nat.reduceEqDiff, reduceIte, Nat.reduceAdd, Nat.reduceLeDiff, Nat.reduceMul, Int.reduceEq, Int.reduceLT, Int.reduceLE, Int.reduceNeg, Int.reduceAdd, Int.reduceSub, Nat.reduceLT, Nat.reduceBEq, Nat.reduceSub, Nat.reducePow, hn, hb]); first | refine zE3 ?_ | refine zE2 ?_ | refine zE4 ?_ | refine zE5 ?_ | refine zE6 ?_ | refine zE7 ?_ | refine zE8 ?_) | (refine b_s (fun hb => ?_) (fun hb => ?_) <;> ((try simp only [hn1, hn2, hn3, hn4] at hb); first | (exfalso; omega) | skip)) | (first | refine g_s (fun hb => ?_) (fun hb => ?_) | refine d_s (fun hb => ?_) (fun hb => ?_)) <;> ((try simp only [hn1, hn2] at hb); rw [hb]; try simp only [hn3, hn4] at hb)
      simp only [one1, frz_s, Option.map_some]
end Go.Proofs.Bv
/-
  The reference's Same: a value is the same as itself.
  Conditions: none.
-/
namespace Go.Proofs.Bv
open Go
theorem ok14 : codeOk 82 (Tryz.f14.body.getD .skip) = true := by kernel_rfl
theorem sameD_self (n : Bool) (c : List Int) (e : Int) : sameD n c e n c e = true := by simp [sameD, sameL_self]
set_option maxHeartbeats 8000000 in
set_option maxRecDepth 100000 in
theorem pc14 (G : Nat → Option (List AV)) : (v : JV) → Fit v → Pc (Cf G) 14 [.agg (enc v), .agg (enc v)] (.sc (.bool true))
  | .mk kk ng cf ex t l ks => fun hfit => by
    have hnl := hfit.1.nlist
    have hnk := hfit.1.nkeys
    have ih : ∀ x ∈ l, Pc (Cf G) 14 [.agg (enc x), .agg (enc x)] (.sc (.bool true)) := fun x hx => pc14 G x (Fits_mem hfit.2 x hx)
    have h48 := pc48 G ng ng cf cf ex ex (by have := hfit.1.ncoef; omega)
    rw [sameD_self] at h48
    have ht : ∀ s : ByteArray, (s.toList == s.toList) = true := fun s => by simp
    refine Pc_of (Gf_enter (C := Cf G) Tryz.func14 rfl ok14 (Nat.le_of_ble_eq_true rfl) ?_)
    simp only [Tryz.f14, Option.getD_some]
    simp only [enc]
    repeat' first | refine w_op rfl rfl ?_ | refine x_p rfl ?_ | refine w_sr ?_ | refine st_nil ?_ | refine w_seq ?_ | refine st_region ?_ | refine st_block ?_ | refine w_cond ?_ | refine b_t ?_ | refine b_f ?_ | refine st_skip ?_ | refine st_exit ?_ | refine st_ret ?_ | refine st_onNormN ?_ | refine st_onNormE ?_ | refine st_onNormR ?_ | refine st_onExitN ?_ | refine st_onExitR ?_ | refine st_onExitS ?_ | refine st_onExitO (by decide) ?_ | refine g_t ?_ | refine g_f rfl ?_ | refine o_op rfl ?_ | refine w_wr ?_ | refine w_wn ?_ | refine d_c rfl ?_ | refine d_on rfl ?_ | refine d_op rfl ?_ | refine d_y ?_ | refine d_gd rfl ?_ | refine d_t ?_ | refine d_f ?_ | refine d_nil ?_ | refine w_u false ?_ | refine w_dr rfl ?_ | refine d_q ?_ | refine n_0 rfl ?_ | refine d_n ?_ | refine k_p rfl rfl rfl rfl (h48) ?_ | refine w_gd rfl ?_ | ((first | refine zE1 ?_ | refine w_cl rfl rfl ?_ | refine o_cl rfl ?_ | refine d_cl rfl ?_); (conv => arg 1; try simp only [go_sem, Nat.reduceEqDiff, reduceIte, Nat.reduceAdd, Nat.reduceLeDiff, Nat.reduceMul, Int.reduceEq, Int.reduceLT, Int.reduceLE, Int.reduceNeg, Int.reduceAdd, Int.reduceSub, Nat.reduceLT, Nat.reduceBEq, Nat.reduceSub, Nat.reducePow, ht]); first | refine zE3 ?_ | refine zE2 ?_ | refine zE4 ?_ | refine zE5 ?_ | refine zE6 ?_ | refine zE7 ?_ | refine zE8 ?_) | (refine b_s (fun hb => ?_) (fun hb => ?_) <;> ((try simp only [hn1, hn2, hn3, hn4] at hb); first | (exfalso; omega) | skip)) | (first | refine g_s (fun hb => ?_) (fun hb => ?_) | refine d_s (fun hb => ?_) (fun hb => ?_)) <;> ((try simp only [hn1, hn2] at hb); rw [hb]; try simp only [hn3, hn4] at hb)
    refine Gc_loop_inv (fun m st => ∃ d r, ks = d ++ r ∧ m = r.length ∧ st.T 2 = .ptr 0 0 ∧ st.T 3 = .ptr 1 0 ∧ st.T 5 = .sc (.int .i64 d.length) ∧
      st.h 0 = some (.cells [.sc (.int .i64 kk), .sc (.bool ng), .psl (u32s cf) cf.length, .sc (.int .i64 ex), .sc (.string t), .psl (encs l) l.length, .psl (strs ks) ks.length] 0 false) ∧
      st.h 1 = some (.cells [.sc (.int .i64 kk), .sc (.bool ng), .psl (u32s cf) cf.length, .sc (.int .i64 ex), .sc (.string t), .psl (encs l) l.length, .psl (strs ks) ks.length] 0 false)) ?_ ks.length _ ⟨[], ks, rfl, rfl, ?_⟩
    · rintro m ⟨T, h, n⟩ ⟨d, r, hdr, rfl, t2, t3, t5, q0, q1⟩
      simp only at t2 t3 t5 q0 q1
      cases r with
      | nil =>
        have hge : ¬ (d.length : Int) < (ks.length : Int) := by rw [hdr]; simp
        repeat' first | refine w_op rfl rfl ?_ | refine x_p rfl ?_ | refine w_sr ?_ | refine st_nil ?_ | refine w_seq ?_ | refine st_region ?_ | refine st_block ?_ | refine w_cond ?_ | refine b_t ?_ | refine b_f ?_ | refine st_skip ?_ | refine st_exit ?_ | refine st_ret ?_ | refine st_onNormN ?_ | refine st_onNormE ?_ | refine st_onNormR ?_ | refine st_onExitN ?_ | refine st_onExitR ?_ | refine st_onExitS ?_ | refine st_onExitO (by decide) ?_ | refine g_t ?_ | refine g_f rfl ?_ | refine o_op rfl ?_ | refine w_wr ?_ | refine w_wn ?_ | refine d_c rfl ?_ | refine d_on rfl ?_ | refine d_op rfl ?_ | refine d_y ?_ | refine d_gd rfl ?_ | refine d_t ?_ | refine d_f ?_ | refine d_nil ?_ | refine w_u false ?_ | refine w_dr rfl ?_ | refine d_q ?_ | refine w_gd rfl ?_ | ((first | refine zE1 ?_); (conv => arg 1; try simp only [go_sem, Nat.reduceEqDiff, reduceIte, Nat.reduceAdd, Nat.reduceLeDiff, Nat.reduceMul, Int.reduceEq, Int.reduceLT, Int.reduceLE, Int.reduceNeg, Int.reduceAdd, Int.reduceSub, Nat.reduceLT, Nat.reduceBEq, Nat.reduceSub, Nat.reducePow, t2, t3, t5, q0, q1, hge]); first | refine zE3 ?_ | refine zE2 ?_ | refine zE4 ?_ | refine zE5 ?_ | refine zE6 ?_ | refine zE7 ?_ | refine zE8 ?_) | (refine b_s (fun hb => ?_) (fun hb => ?_) <;> ((try simp only [hn1, hn2, hn3, hn4] at hb); first | (exfalso; omega) | skip)) | (first | refine g_s (fun hb => ?_) (fun hb => ?_) | refine d_s (fun hb => ?_) (fun hb => ?_)) <;> ((try simp only [hn1, hn2] at hb); rw [hb]; try simp only [hn3, hn4] at hb)
        refine Gc_loop_inv (fun m st => ∃ d r, l = d ++ r ∧ m = r.length ∧ st.T 2 = .ptr 0 0 ∧ st.T 3 = .ptr 1 0 ∧ st.T 6 = .sc (.int .i64 d.length) ∧
          st.h 0 = some (.cells [.sc (.int .i64 kk), .sc (.bool ng), .psl (u32s cf) cf.length, .sc (.int .i64 ex), .sc (.string t), .psl (encs l) l.length, .psl (strs ks) ks.length] 0 false) ∧
          st.h 1 = some (.cells [.sc (.int .i64 kk), .sc (.bool ng), .psl (u32s cf) cf.length, .sc (.int .i64 ex), .sc (.string t), .psl (encs l) l.length, .psl (strs ks) ks.length] 0 false)) ?_ l.length _ ⟨[], l, rfl, rfl, ?_⟩
        · rintro m ⟨T, h, n⟩ ⟨d, r, hdr, rfl, t2, t3, t6, q0, q1⟩
          simp only at t2 t3 t6 q0 q1
          cases r with
          | nil =>
            have hge : ¬ (d.length : Int) < (l.length : Int) := by rw [hdr]; simp
            repeat' first | refine w_op rfl rfl ?_ | refine x_p rfl ?_ | refine w_sr ?_ | refine st_nil ?_ | refine w_seq ?_ | refine st_region ?_ | refine st_block ?_ | refine w_cond ?_ | refine b_t ?_ | refine b_f ?_ | refine st_skip ?_ | refine st_exit ?_ | refine st_ret ?_ | refine st_onNormN ?_ | refine st_onNormE ?_ | refine st_onNormR ?_ | refine st_onExitN ?_ | refine st_onExitR ?_ | refine st_onExitS ?_ | refine st_onExitO (by decide) ?_ | refine g_t ?_ | refine g_f rfl ?_ | refine o_op rfl ?_ | refine w_wr ?_ | refine w_wn ?_ | refine d_c rfl ?_ | refine d_on rfl ?_ | refine d_op rfl ?_ | refine d_y ?_ | refine d_gd rfl ?_ | refine d_t ?_ | refine d_f ?_ | refine d_nil ?_ | refine w_u false ?_ | refine w_dr rfl ?_ | refine d_q ?_ | refine w_gd rfl ?_ | ((first | refine zE1 ?_); (conv => arg 1; try simp only [go_sem, Nat.reduceEqDiff, reduceIte, Nat.reduceAdd, Nat.reduceLeDiff, Nat.reduceMul, Int.reduceEq, Int.reduceLT, Int.reduceLE, Int.reduceNeg, Int.reduceAdd, Int.reduceSub, Nat.reduceLT, Nat.reduceBEq, Nat.reduceSub, Nat.reducePow, t2, t3, t6, q0, q1, hge]); first | refine zE3 ?_ | refine zE2 ?_ | refine zE4 ?_ | refine zE5 ?_ | refine zE6 ?_ | refine zE7 ?_ | refine zE8 ?_) | (refine b_s (fun hb => ?_) (fun hb => ?_) <;> ((try simp only [hn1, hn2, hn3, hn4] at hb); first | (exfalso; omega) | skip)) | (first | refine g_s (fun hb => ?_) (fun hb => ?_) | refine d_s (fun hb => ?_) (fun hb => ?_)) <;> ((try simp only [hn1, hn2] at hb); rw [hb]; try simp only [hn3, hn4] at hb)
            simp only [one1, frz_s, Option.map_some]
          | cons x r =>
            have hlt : (d.length : Int) < (l.length : Int) := by rw [hdr]; simp; omega
            have hltn : d.length < l.length := by omega
            have hcut : cut (encs l) (d.length * 7) 7 = enc x := by rw [hdr]; exact cut_encs d x r
            have hle : d.length * 7 + 7 ≤ (encs l).length := by rw [encs_len]; omega
            have hx := ih x (by rw [hdr]; simp)
            have w1 : IntKind.i64.wrap ((d.length : Int) + 1) = (d.length : Int) + 1 := i64 (by omega) (by omega)
            obtain ⟨k', n', c', e', t', l', ks'⟩ := x
            simp only [enc] at hx hcut
            repeat' first | refine w_op rfl rfl ?_ | refine x_p rfl ?_ | refine w_sr ?_ | refine st_nil ?_ | refine w_seq ?_ | refine st_region ?_ | refine st_block ?_ | refine w_cond ?_ | refine b_t ?_ | refine b_f ?_ | refine st_skip ?_ | refine st_exit ?_ | refine st_ret ?_ | refine st_onNormN ?_ | refine st_onNormE ?_ | refine st_onNormR ?_ | refine st_onExitN ?_ | refine st_onExitR ?_ | refine st_onExitS ?_ | refine st_onExitO (by decide) ?_ | refine g_t ?_ | refine g_f rfl ?_ | refine o_op rfl ?_ | refine w_wr ?_ | refine w_wn ?_ | refine d_c rfl ?_ | refine d_on rfl ?_ | refine d_op rfl ?_ | refine d_y ?_ | refine d_gd rfl ?_ | refine d_t ?_ | refine d_f ?_ | refine d_nil ?_ | refine w_u false ?_ | refine w_dr rfl ?_ | refine d_q ?_ | refine n_0 rfl ?_ | refine d_n ?_ | refine k_p rfl rfl rfl rfl (hx) ?_ | refine w_gd rfl ?_ | ((first | refine zE1 ?_ | refine w_cl rfl rfl ?_ | refine o_cl rfl ?_ | refine d_cl rfl ?_); (conv => arg 1; try simp only [go_sem, Nat.reduceEqDiff, reduceIte, Nat.reduceAdd, Nat.reduceLeDiff, Nat.reduceMul, Int.reduceEq, Int.reduceLT, Int.reduceLE, Int.reduceNeg, Int.reduceAdd, Int.reduceSub, Nat.reduceLT, Nat.reduceBEq, Nat.reduceSub, Nat.reducePow, t2, t3, t6, q0, q1, hlt, hltn, hcut, hle, w1]); first | refine zE3 ?_ | refine zE2 ?_ | refine zE4 ?_ | refine zE5 ?_ | refine zE6 ?_ | refine zE7 ?_ | refine zE8 ?_) | (refine b_s (fun hb => ?_) (fun hb => ?_) <;> ((try simp only [hn1, hn2, hn3, hn4] at hb); first | (exfalso; omega) | skip)) | (first | refine g_s (fun hb => ?_) (fun hb => ?_) | refine d_s (fun hb => ?_) (fun hb => ?_)) <;> ((try simp only [hn1, hn2] at hb); rw [hb]; try simp only [hn3, hn4] at hb)
            refine ⟨r.length, by simp, d ++ [.mk k' n' c' e' t' l' ks'], r, by simp [hdr], rfl, ?_, ?_, ?_, q0, q1⟩
            all_goals simp [upd_ap, tAt, t2, t3]
        · simp [upd_ap, t2, t3, q0, q1]
      | cons k r =>
        have hlt : (d.length : Int) < (ks.length : Int) := by rw [hdr]; simp; omega
        have hltn : d.length < ks.length := by omega
        have hk := strs_at hdr
        have w1 : IntKind.i64.wrap ((d.length : Int) + 1) = (d.length : Int) + 1 := i64 (by omega) (by omega)
        repeat' first | refine w_op rfl rfl ?_ | refine x_p rfl ?_ | refine w_sr ?_ | refine st_nil ?_ | refine w_seq ?_ | refine st_region ?_ | refine st_block ?_ | refine w_cond ?_ | refine b_t ?_ | refine b_f ?_ | refine st_skip ?_ | refine st_exit ?_ | refine st_ret ?_ | refine st_onNormN ?_ | refine st_onNormE ?_ | refine st_onNormR ?_ | refine st_onExitN ?_ | refine st_onExitR ?_ | refine st_onExitS ?_ | refine st_onExitO (by decide) ?_ | refine g_t ?_ | refine g_f rfl ?_ | refine o_op rfl ?_ | refine w_wr ?_ | refine w_wn ?_ | refine d_c rfl ?_ | refine d_on rfl ?_ | refine d_op rfl ?_ | refine d_y ?_ | refine d_gd rfl ?_ | refine d_t ?_ | refine d_f ?_ | refine d_nil ?_ | refine w_u false ?_ | refine w_dr rfl ?_ | refine d_q ?_ | refine w_gd rfl ?_ | ((first | refine zE1 ?_); (conv => arg 1; try simp only [go_sem, Nat.reduceEqDiff, reduceIte, Nat.reduceAdd, Nat.reduceLeDiff, Nat.reduceMul, Int.reduceEq, Int.reduceLT, Int.reduceLE, Int.reduceNeg, Int.reduceAdd, Int.reduceSub, Nat.reduceLT, Nat.reduceBEq, Nat.reduceSub, Nat.reducePow, t2, t3, t5, q0, q1, hlt, hltn, hk, w1, ht]); first | refine zE3 ?_ | refine zE2 ?_ | refine zE4 ?_ | refine zE5 ?_ | refine zE6 ?_ | refine zE7 ?_ | refine zE8 ?_) | (refine b_s (fun hb => ?_) (fun hb => ?_) <;> ((try simp only [hn1, hn2, hn3, hn4] at hb); first | (exfalso; omega) | skip)) | (first | refine g_s (fun hb => ?_) (fun hb => ?_) | refine d_s (fun hb => ?_) (fun hb => ?_)) <;> ((try simp only [hn1, hn2] at hb); rw [hb]; try simp only [hn3, hn4] at hb)
        refine ⟨r.length, by simp, d ++ [k], r, by simp [hdr], rfl, ?_, ?_, ?_, q0, q1⟩
        all_goals simp [upd_ap, tAt, t2, t3]
    · simp [upd_ap, argsT]
  termination_by v => v
  decreasing_by
    simp_wf
    have := List.sizeOf_lt_of_mem hx
    omega
end Go.Proofs.Bv
/-
  The reference's texts: may, Octets, First, Check, text.
  Conditions: none.
-/
namespace Go.Proofs.Bv
open Go
theorem ok125 : codeOk 17 (Tryz.f125.body.getD .skip) = true := by kernel_rfl
theorem ok126 : codeOk 57 (Tryz.f126.body.getD .skip) = true := by kernel_rfl
def mayI (x : Int) : Bool := decide (0 ≤ x ∧ x ≤ 1114111 ∧ (x < 55296 ∨ 57343 < x))
theorem pc125i (G : Nat → Option (List AV)) (x : Int) : Pc (Cf G) 125 [.sc (.int .i64 x)] (.sc (.bool (mayI x))) := by
  refine Pc_of (Gf_enter (C := Cf G) Tryz.func125 rfl ok125 (Nat.le_of_ble_eq_true rfl) ?_)
  simp only [Tryz.f125, Option.getD_some]
  repeat' first | refine w_op rfl rfl ?_ | refine x_p rfl ?_ | refine w_sr ?_ | refine st_nil ?_ | refine w_seq ?_ | refine st_region ?_ | refine st_block ?_ | refine w_cond ?_ | refine b_t ?_ | refine b_f ?_ | refine st_skip ?_ | refine st_exit ?_ | refine st_ret ?_ | refine st_onNormN ?_ | refine st_onNormE ?_ | refine st_onNormR ?_ | refine st_onExitN ?_ | refine st_onExitR ?_ | refine st_onExitS ?_ | refine st_onExitO (by decide) ?_ | refine g_t ?_ | refine g_f rfl ?_ | refine o_op rfl ?_ | refine w_wr ?_ | refine w_wn ?_ | refine d_c rfl ?_ | refine d_on rfl ?_ | refine d_op rfl ?_ | refine d_y ?_ | refine d_gd rfl ?_ | refine d_t ?_ | refine d_f ?_ | refine d_nil ?_ | refine w_u false ?_ | refine w_dr rfl ?_ | refine d_q ?_ | refine w_gd rfl ?_ | ((first | refine zE1 ?_); (conv => arg 1; try simp only [go_sem, Nat.reduceEqDiff, reduceIte, Nat.reduceAdd, Nat.reduceLeDiff, Nat.reduceMul, Int.reduceEq, Int.reduceLT, Int.reduceLE, Int.reduceNeg, Int.reduceAdd, Int.reduceSub, Nat.reduceLT, Nat.reduceBEq, Nat.reduceSub, Nat.reducePow]); first | refine zE3 ?_ | refine zE2 ?_ | refine zE4 ?_ | refine zE5 ?_ | refine zE6 ?_ | refine zE7 ?_ | refine zE8 ?_) | (refine b_s (fun hb => ?_) (fun hb => ?_) <;> ((try simp only [hn1, hn2, hn3, hn4] at hb); first | (exfalso; omega) | skip)) | (first | refine g_s (fun hb => ?_) (fun hb => ?_) | refine d_s (fun hb => ?_) (fun hb => ?_)) <;> ((try simp only [hn1, hn2] at hb); rw [hb]; try simp only [hn3, hn4] at hb)
  all_goals simp only [one1, frz_s, Option.map_some, mayI, Option.some.injEq, AV.sc.injEq, Value.bool.injEq]
  all_goals rw [Bool.eq_iff_iff]
  all_goals simp only [decide_eq_true_eq, Bool.false_eq_true, true_iff, iff_true, false_iff, iff_false]
  all_goals omega
theorem pc125 (G : Nat → Option (List AV)) (n : Nat) : Pc (Cf G) 125 [.sc (.int .i64 n)] (.sc (.bool (mayN n))) := by
  have h := pc125i G n
  have e : mayI n = mayN n := by
    rw [Bool.eq_iff_iff, mayN_iff]
    unfold mayI
    rw [decide_eq_true_eq]
    omega
  rwa [e] at h
def b8s (l : List Nat) : List AV := l.map fun (d : Nat) => AV.sc (.int .u8 (d : Int))
theorem bo1 (a : Int) : fillA (fun i => some (i * 1, 1)) (rep 1 [.sc (.int .u8 0)]) [(0, .sc (.int .u8 a))] = some [.sc (.int .u8 a)] := rfl
theorem bo2 (a b : Int) : fillA (fun i => some (i * 1, 1)) (rep 2 [.sc (.int .u8 0)]) [(0, .sc (.int .u8 a)), (1, .sc (.int .u8 b))] = some [.sc (.int .u8 a), .sc (.int .u8 b)] := rfl
theorem bo3 (a b c : Int) : fillA (fun i => some (i * 1, 1)) (rep 3 [.sc (.int .u8 0)]) [(0, .sc (.int .u8 a)), (1, .sc (.int .u8 b)), (2, .sc (.int .u8 c))] = some [.sc (.int .u8 a), .sc (.int .u8 b), .sc (.int .u8 c)] := rfl
theorem bo4 (a b c d : Int) : fillA (fun i => some (i * 1, 1)) (rep 4 [.sc (.int .u8 0)]) [(0, .sc (.int .u8 a)), (1, .sc (.int .u8 b)), (2, .sc (.int .u8 c)), (3, .sc (.int .u8 d))] = some [.sc (.int .u8 a), .sc (.int .u8 b), .sc (.int .u8 c), .sc (.int .u8 d)] := rfl
set_option maxHeartbeats 2000000 in
set_option maxRecDepth 100000 in
theorem pc126 (G : Nat → Option (List AV)) (n : Nat) (hn : n ≤ 1114111) : Pc (Cf G) 126 [.sc (.int .i64 n)] (.psl (b8s (octN n)) (octN n).length) := by
  have q : ∀ d : Nat, 0 < d → IntKind.i64.wrap ((n : Int).tdiv (d : Int)) = ((n / d : Nat) : Int) := fun d hd => by
    rw [Int.tdiv_eq_ediv_of_nonneg (by omega)]
    have e : (n : Int) / (d : Int) = ((n / d : Nat) : Int) := by simp
    have : n / d ≤ n := Nat.div_le_self n d
    rw [e]
    generalize n / d = m at this ⊢
    rw [i64 (by omega) (by omega)]
  have q1 : IntKind.i64.wrap ((n : Int).tdiv 64) = ((n / 64 : Nat) : Int) := q 64 (by omega)
  have q2 : IntKind.i64.wrap ((n : Int).tdiv 4096) = ((n / 4096 : Nat) : Int) := q 4096 (by omega)
  have q3 : IntKind.i64.wrap ((n : Int).tdiv 262144) = ((n / 262144 : Nat) : Int) := q 262144 (by omega)
  have r : ∀ m : Nat, (m : Int).tmod 64 = ((m % 64 : Nat) : Int) := fun m => by rw [Int.tmod_eq_emod_of_nonneg (by omega)]; omega
  have a1 : ∀ m : Nat, m ≤ 1114111 → IntKind.i64.wrap (128 + ((m : Nat) : Int)) = ((128 + m : Nat) : Int) := fun m hm => by rw [i64 (by omega) (by omega)]; omega
  have u : ∀ m : Nat, m ≤ 255 → IntKind.u8.wrap (m : Int) = (m : Int) := fun m hm => IntWalk.u8_in _ (by omega)
  have a2 : IntKind.i64.wrap (192 + ((n / 64 : Nat) : Int)) = ((192 + n / 64 : Nat) : Int) := by rw [i64 (by omega) (by omega)]; omega
  have a3 : IntKind.i64.wrap (224 + ((n / 4096 : Nat) : Int)) = ((224 + n / 4096 : Nat) : Int) := by rw [i64 (by omega) (by omega)]; omega
  have a4 : IntKind.i64.wrap (240 + ((n / 262144 : Nat) : Int)) = ((240 + n / 262144 : Nat) : Int) := by rw [i64 (by omega) (by omega)]; omega
  have c1 := a1 (n % 64) (by omega)
  have c2 := a1 (n / 64 % 64) (by omega)
  have c3 := a1 (n / 4096 % 64) (by omega)
  have v1 := u (128 + n % 64) (by omega)
  have v2 := u (128 + n / 64 % 64) (by omega)
  have v3 := u (128 + n / 4096 % 64) (by omega)
  refine Pc_of (Gf_enter (C := Cf G) Tryz.func126 rfl ok126 (Nat.le_of_ble_eq_true rfl) ?_)
  simp only [Tryz.f126, Option.getD_some]
  by_cases h1 : n < 128
  · have g1 : (n : Int) < 128 := by omega
    have v0 := u n (by omega)
    repeat' first | refine w_op rfl rfl ?_ | refine x_p rfl ?_ | refine w_sr ?_ | refine st_nil ?_ | refine w_seq ?_ | refine st_region ?_ | refine st_block ?_ | refine w_cond ?_ | refine b_t ?_ | refine b_f ?_ | refine st_skip ?_ | refine st_exit ?_ | refine st_ret ?_ | refine st_onNormN ?_ | refine st_onNormE ?_ | refine st_onNormR ?_ | refine st_onExitN ?_ | refine st_onExitR ?_ | refine st_onExitS ?_ | refine st_onExitO (by decide) ?_ | refine g_t ?_ | refine g_f rfl ?_ | refine o_op rfl ?_ | refine w_wr ?_ | refine w_wn ?_ | refine d_c rfl ?_ | refine d_on rfl ?_ | refine d_op rfl ?_ | refine d_y ?_ | refine d_gd rfl ?_ | refine d_t ?_ | refine d_f ?_ | refine d_nil ?_ | refine w_u false ?_ | refine w_dr rfl ?_ | refine d_q ?_ | refine w_gd rfl ?_ | ((first | refine zE1 ?_); (conv => arg 1; try simp only [go_sem, Nat.reduceEqDiff, reduceIte, Nat.reduceAdd, Nat.reduceLeDiff, Nat.reduceMul, Int.reduceEq, Int.reduceLT, Int.reduceLE, Int.reduceNeg, Int.reduceAdd, Int.reduceSub, Nat.reduceLT, Nat.reduceBEq, Nat.reduceSub, Nat.reducePow, g1, v0, bo1]); first | refine zE3 ?_ | refine zE2 ?_ | refine zE4 ?_ | refine zE5 ?_ | refine zE6 ?_ | refine zE7 ?_ | refine zE8 ?_) | (refine b_s (fun hb => ?_) (fun hb => ?_) <;> ((try simp only [hn1, hn2, hn3, hn4] at hb); first | (exfalso; omega) | skip)) | (first | refine g_s (fun hb => ?_) (fun hb => ?_) | refine d_s (fun hb => ?_) (fun hb => ?_)) <;> ((try simp only [hn1, hn2] at hb); rw [hb]; try simp only [hn3, hn4] at hb)
    simp only [one1, octN, if_pos h1]
    rfl
  · have g1 : ¬ (n : Int) < 128 := by omega
    by_cases h2 : n < 2048
    · have g2 : (n : Int) < 2048 := by omega
      have v4 := u (192 + n / 64) (by omega)
      repeat' first | refine w_op rfl rfl ?_ | refine x_p rfl ?_ | refine w_sr ?_ | refine st_nil ?_ | refine w_seq ?_ | refine st_region ?_ | refine st_block ?_ | refine w_cond ?_ | refine b_t ?_ | refine b_f ?_ | refine st_skip ?_ | refine st_exit ?_ | refine st_ret ?_ | refine st_onNormN ?_ | refine st_onNormE ?_ | refine st_onNormR ?_ | refine st_onExitN ?_ | refine st_onExitR ?_ | refine st_onExitS ?_ | refine st_onExitO (by decide) ?_ | refine g_t ?_ | refine g_f rfl ?_ | refine o_op rfl ?_ | refine w_wr ?_ | refine w_wn ?_ | refine d_c rfl ?_ | refine d_on rfl ?_ | refine d_op rfl ?_ | refine d_y ?_ | refine d_gd rfl ?_ | refine d_t ?_ | refine d_f ?_ | refine d_nil ?_ | refine w_u false ?_ | refine w_dr rfl ?_ | refine d_q ?_ | refine w_gd rfl ?_ | ((first | refine zE1 ?_); (conv => arg 1; try simp only [go_sem, Nat.reduceEqDiff, reduceIte, Nat.reduceAdd, Nat.reduceLeDiff, Nat.reduceMul, Int.reduceEq, Int.reduceLT, Int.reduceLE, Int.reduceNeg, Int.reduceAdd, Int.reduceSub, Nat.reduceLT, Nat.reduceBEq, Nat.reduceSub, Nat.reducePow, g1, g2, q1, r, a2, c1, v1, v4, bo2]); first | refine zE3 ?_ | refine zE2 ?_ | refine zE4 ?_ | refine zE5 ?_ | refine zE6 ?_ | refine zE7 ?_ | refine zE8 ?_) | (refine b_s (fun hb => ?_) (fun hb => ?_) <;> ((try simp only [hn1, hn2, hn3, hn4] at hb); first | (exfalso; omega) | skip)) | (first | refine g_s (fun hb => ?_) (fun hb => ?_) | refine d_s (fun hb => ?_) (fun hb => ?_)) <;> ((try simp only [hn1, hn2] at hb); rw [hb]; try simp only [hn3, hn4] at hb)
      simp only [one1, octN, if_neg h1, if_pos h2]
      rfl
    · have g2 : ¬ (n : Int) < 2048 := by omega
      by_cases h3 : n < 65536
      · have g3 : (n : Int) < 65536 := by omega
        have v5 := u (224 + n / 4096) (by omega)
        repeat' first | refine w_op rfl rfl ?_ | refine x_p rfl ?_ | refine w_sr ?_ | refine st_nil ?_ | refine w_seq ?_ | refine st_region ?_ | refine st_block ?_ | refine w_cond ?_ | refine b_t ?_ | refine b_f ?_ | refine st_skip ?_ | refine st_exit ?_ | refine st_ret ?_ | refine st_onNormN ?_ | refine st_onNormE ?_ | refine st_onNormR ?_ | refine st_onExitN ?_ | refine st_onExitR ?_ | refine st_onExitS ?_ | refine st_onExitO (by decide) ?_ | refine g_t ?_ | refine g_f rfl ?_ | refine o_op rfl ?_ | refine w_wr ?_ | refine w_wn ?_ | refine d_c rfl ?_ | refine d_on rfl ?_ | refine d_op rfl ?_ | refine d_y ?_ | refine d_gd rfl ?_ | refine d_t ?_ | refine d_f ?_ | refine d_nil ?_ | refine w_u false ?_ | refine w_dr rfl ?_ | refine d_q ?_ | refine w_gd rfl ?_ | ((first | refine zE1 ?_); (conv => arg 1; try simp only [go_sem, Nat.reduceEqDiff, reduceIte, Nat.reduceAdd, Nat.reduceLeDiff, Nat.reduceMul, Int.reduceEq, Int.reduceLT, Int.reduceLE, Int.reduceNeg, Int.reduceAdd, Int.reduceSub, Nat.reduceLT, Nat.reduceBEq, Nat.reduceSub, Nat.reducePow, g1, g2, g3, q1, q2, r, a3, c1, c2, v1, v2, v5, bo3]); first | refine zE3 ?_ | refine zE2 ?_ | refine zE4 ?_ | refine zE5 ?_ | refine zE6 ?_ | refine zE7 ?_ | refine zE8 ?_) | (refine b_s (fun hb => ?_) (fun hb => ?_) <;> ((try simp only [hn1, hn2, hn3, hn4] at hb); first | (exfalso; omega) | skip)) | (first | refine g_s (fun hb => ?_) (fun hb => ?_) | refine d_s (fun hb => ?_) (fun hb => ?_)) <;> ((try simp only [hn1, hn2] at hb); rw [hb]; try simp only [hn3, hn4] at hb)
        simp only [one1, octN, if_neg h1, if_neg h2, if_pos h3]
        rfl
      · have g3 : ¬ (n : Int) < 65536 := by omega
        have v6 := u (240 + n / 262144) (by omega)
        repeat' first | refine w_op rfl rfl ?_ | refine x_p rfl ?_ | refine w_sr ?_ | refine st_nil ?_ | refine w_seq ?_ | refine st_region ?_ | refine st_block ?_ | refine w_cond ?_ | refine b_t ?_ | refine b_f ?_ | refine st_skip ?_ | refine st_exit ?_ | refine st_ret ?_ | refine st_onNormN ?_ | refine st_onNormE ?_ | refine st_onNormR ?_ | refine st_onExitN ?_ | refine st_onExitR ?_ | refine st_onExitS ?_ | refine st_onExitO (by decide) ?_ | refine g_t ?_ | refine g_f rfl ?_ | refine o_op rfl ?_ | refine w_wr ?_ | refine w_wn ?_ | refine d_c rfl ?_ | refine d_on rfl ?_ | refine d_op rfl ?_ | refine d_y ?_ | refine d_gd rfl ?_ | refine d_t ?_ | refine d_f ?_ | refine d_nil ?_ | refine w_u false ?_ | refine w_dr rfl ?_ | refine d_q ?_ | refine w_gd rfl ?_ | ((first | refine zE1 ?_); (conv => arg 1; try simp only [go_sem, Nat.reduceEqDiff, reduceIte, Nat.reduceAdd, Nat.reduceLeDiff, Nat.reduceMul, Int.reduceEq, Int.reduceLT, Int.reduceLE, Int.reduceNeg, Int.reduceAdd, Int.reduceSub, Nat.reduceLT, Nat.reduceBEq, Nat.reduceSub, Nat.reducePow, g1, g2, g3, q1, q2, q3, r, a4, c1, c2, c3, v1, v2, v3, v6, bo4]); first | refine zE3 ?_ | refine zE2 ?_ | refine zE4 ?_ | refine zE5 ?_ | refine zE6 ?_ | refine zE7 ?_ | refine zE8 ?_) | (refine b_s (fun hb => ?_) (fun hb => ?_) <;> ((try simp only [hn1, hn2, hn3, hn4] at hb); first | (exfalso; omega) | skip)) | (first | refine g_s (fun hb => ?_) (fun hb => ?_) | refine d_s (fun hb => ?_) (fun hb => ?_)) <;> ((try simp only [hn1, hn2] at hb); rw [hb]; try simp only [hn3, hn4] at hb)
        simp only [one1, octN, if_neg h1, if_neg h2, if_neg h3]
        rfl
theorem ok124 : codeOk 61 (Tryz.f124.body.getD .skip) = true := by kernel_rfl
/-- Octet i of a text. -/
def bAt (s : ByteArray) (i : Nat) : Nat := (s.get! i).toNat
def firstS (s : ByteArray) : Nat × Nat := firstN s.size (bAt s 0) (bAt s 1) (bAt s 2) (bAt s 3)
theorem bAt_lt (s : ByteArray) (i : Nat) : bAt s i < 256 := UInt8.toNat_lt _
theorem data_at {s : ByteArray} {i : Nat} (h : i < s.size) : (s.data[i]?).map (fun b => AV.sc (.int .u8 (b.toNat : Int))) = some (AV.sc (.int .u8 (bAt s i : Int))) := by
  have h' : i < s.data.size := h
  rw [Array.getElem?_eq_getElem h']
  simp only [Option.map_some, bAt]
  congr 4
  simp only [ByteArray.get!]
  rw [getElem!_pos s.data i h']
theorem bytesOf_b8s : {l : List Nat} → (∀ d ∈ l, d < 256) → bytesOf (b8s l) = some (l.map UInt8.ofNat)
  | [], _ => rfl
  | d :: l, h => by
    have ih := bytesOf_b8s (l := l) fun x hx => h x (List.mem_cons_of_mem _ hx)
    have hd := h d (by simp)
    have e : b8s (d :: l) = .sc (.int .u8 (d : Int)) :: b8s l := rfl
    rw [e, bytesOf]
    have e2 : byteOf (.sc (.int .u8 (d : Int))) = some (UInt8.ofNat d) := by
      simp only [byteOf]
      rw [if_pos (by omega)]
      rfl
    rw [e2, ih]
    rfl
theorem octN_lt (n : Nat) (hn : n ≤ 1114111) : ∀ d ∈ octN n, d < 256 := by
  unfold octN
  intro d hd
  repeat' split at hd
  all_goals (simp at hd; omega)
end Go.Proofs.Bv
