/-
  A part of the proof of CliLettersUptoCardSaid: CkUtf, CkRefU.
  Conditions: those that each part names.
-/
import Derived.Test.YtplbncajfignlaaGreatDoorCl14
import Derived.Lib.DecodeN
set_option linter.unusedSimpArgs false
set_option linter.unusedVariables false
namespace Go.Proofs.Bv
open Go
def mayN (n : Nat) : Bool := decide (n ≤ 1114111) && (decide (n < 55296) || decide (57343 < n))
def octN (n : Nat) : List Nat :=
  if n < 128 then [n]
  else if n < 2048 then [192 + n / 64, 128 + n % 64]
  else if n < 65536 then [224 + n / 4096, 128 + n / 64 % 64, 128 + n % 64]
  else [240 + n / 262144, 128 + n / 4096 % 64, 128 + n / 64 % 64, 128 + n % 64]
def finN (bs : List Nat) (n : Nat) : Nat × Nat := if mayN n = true ∧ octN n = bs then (n, bs.length) else (0, 0)
def firstN (n b0 b1 b2 b3 : Nat) : Nat × Nat :=
  if n = 0 then (0, 0)
  else if 240 ≤ b0 then (if n < 4 then (0, 0) else finN [b0, b1, b2, b3] ((((b0 - 240) * 64 + b1 % 64) * 64 + b2 % 64) * 64 + b3 % 64))
  else if 224 ≤ b0 then (if n < 3 then (0, 0) else finN [b0, b1, b2] (((b0 - 224) * 64 + b1 % 64) * 64 + b2 % 64))
  else if 192 ≤ b0 then (if n < 2 then (0, 0) else finN [b0, b1] ((b0 - 192) * 64 + b1 % 64))
  else finN [b0] b0
def goodN (d : Nat × Nat) : Nat × Nat := if d.1 = 65533 ∧ d.2 = 1 then (0, 0) else d
theorem octN_1 (n b0 : Nat) (h : mayN n = true) : octN n = [b0] ↔ n < 128 ∧ n = b0 := by
  unfold octN
  split
  · simp; omega
  · split
    · simp; omega
    · split
      · simp; omega
      · simp; omega
theorem octN_2 (n b0 b1 : Nat) : octN n = [b0, b1] ↔ 128 ≤ n ∧ n < 2048 ∧ 192 + n / 64 = b0 ∧ 128 + n % 64 = b1 := by
  unfold octN
  split
  · simp; omega
  · split
    · simp; omega
    · split
      · simp; omega
      · simp; omega
theorem octN_3 (n b0 b1 b2 : Nat) : octN n = [b0, b1, b2] ↔ 2048 ≤ n ∧ n < 65536 ∧ 224 + n / 4096 = b0 ∧ 128 + n / 64 % 64 = b1 ∧ 128 + n % 64 = b2 := by
  unfold octN
  split
  · simp; omega
  · split
    · simp; omega
    · split
      · simp; omega
      · simp; omega
theorem octN_4 (n b0 b1 b2 b3 : Nat) : octN n = [b0, b1, b2, b3] ↔ 65536 ≤ n ∧ 240 + n / 262144 = b0 ∧ 128 + n / 4096 % 64 = b1 ∧ 128 + n / 64 % 64 = b2 ∧ 128 + n % 64 = b3 := by
  unfold octN
  split
  · simp; omega
  · split
    · simp; omega
    · split
      · simp; omega
      · simp; omega
theorem mayN_iff (n : Nat) : mayN n = true ↔ n ≤ 1114111 ∧ (n < 55296 ∨ 57343 < n) := by simp [mayN]
set_option maxHeartbeats 4000000 in
theorem first_good (n b0 b1 b2 b3 : Nat) (hn : 0 < n) (h0 : b0 < 256) (h1 : b1 < 256) (h2 : b2 < 256) (h3 : b3 < 256) : firstN n b0 b1 b2 b3 = goodN (Lib.decodeN n b0 b1 b2 b3) := by
  unfold firstN
  rw [if_neg (by omega)]
  by_cases c1 : 240 ≤ b0
  · rw [if_pos c1]
    unfold Lib.decodeN
    by_cases hn4 : n < 4
    · rw [if_pos hn4, if_neg (by omega), if_neg (by omega), if_neg (by omega), if_neg (by omega)]
      simp [goodN]
    · rw [if_neg hn4, if_neg (by omega), if_neg (by omega), if_neg (by omega)]
      by_cases hc : b0 / 8 = 30 ∧ b1 / 64 = 2 ∧ b2 / 64 = 2 ∧ b3 / 64 = 2
      · rw [if_pos (by omega)]
        generalize hv : b0 % 8 * 262144 + b1 % 64 * 4096 + b2 % 64 * 64 + b3 % 64 = v
        have e : (((b0 - 240) * 64 + b1 % 64) * 64 + b2 % 64) * 64 + b3 % 64 = v := by omega
        rw [e]
        unfold finN
        by_cases hg : v ≥ 65536 ∧ (v < 55296 ∨ 57344 ≤ v ∧ v ≤ 1114111)
        · rw [if_pos hg, if_pos ⟨(mayN_iff v).2 (by omega), (octN_4 v b0 b1 b2 b3).2 (by omega)⟩]
          unfold goodN
          rw [if_neg (by simp)]
          rfl
        · rw [if_neg hg, if_neg (by rw [mayN_iff, octN_4]; omega)]
          simp [goodN]
      · rw [if_neg (by omega)]
        unfold finN
        rw [if_neg (by rw [mayN_iff, octN_4]; omega)]
        simp [goodN]
  · rw [if_neg c1]
    by_cases c2 : 224 ≤ b0
    · rw [if_pos c2]
      unfold Lib.decodeN
      by_cases hn3 : n < 3
      · rw [if_pos hn3, if_neg (by omega), if_neg (by omega), if_neg (by omega), if_neg (by omega)]
        simp [goodN]
      · rw [if_neg hn3, if_neg (by omega), if_neg (by omega)]
        by_cases hc : b1 / 64 = 2 ∧ b2 / 64 = 2
        · rw [if_pos (by omega)]
          generalize hv : b0 % 16 * 4096 + b1 % 64 * 64 + b2 % 64 = v
          have e : ((b0 - 224) * 64 + b1 % 64) * 64 + b2 % 64 = v := by omega
          rw [e]
          unfold finN
          by_cases hg : v ≥ 2048 ∧ (v < 55296 ∨ 57344 ≤ v ∧ v ≤ 1114111)
          · rw [if_pos hg, if_pos ⟨(mayN_iff v).2 (by omega), (octN_3 v b0 b1 b2).2 (by omega)⟩]
            unfold goodN
            rw [if_neg (by simp)]
            rfl
          · rw [if_neg hg, if_neg (by rw [mayN_iff, octN_3]; omega)]
            simp [goodN]
        · rw [if_neg (by omega), if_neg (by omega)]
          unfold finN
          rw [if_neg (by rw [mayN_iff, octN_3]; omega)]
          simp [goodN]
    · rw [if_neg c2]
      by_cases c3 : 192 ≤ b0
      · rw [if_pos c3]
        unfold Lib.decodeN
        by_cases hn2 : n < 2
        · rw [if_pos hn2, if_neg (by omega), if_neg (by omega), if_neg (by omega), if_neg (by omega)]
          simp [goodN]
        · rw [if_neg hn2, if_neg (by omega)]
          by_cases hc : b1 / 64 = 2
          · rw [if_pos (by omega)]
            generalize hv : b0 % 32 * 64 + b1 % 64 = v
            have e : (b0 - 192) * 64 + b1 % 64 = v := by omega
            rw [e]
            unfold finN
            by_cases hg : v ≥ 128
            · rw [if_pos hg, if_pos ⟨(mayN_iff v).2 (by omega), (octN_2 v b0 b1).2 (by omega)⟩]
              unfold goodN
              rw [if_neg (by simp)]
              rfl
            · rw [if_neg hg, if_neg (by rw [mayN_iff, octN_2]; omega)]
              simp [goodN]
          · rw [if_neg (by omega), if_neg (by omega), if_neg (by omega)]
            unfold finN
            rw [if_neg (by rw [mayN_iff, octN_2]; omega)]
            simp [goodN]
      · rw [if_neg c3]
        unfold Lib.decodeN finN
        by_cases c4 : b0 < 128
        · rw [if_pos c4, if_pos ⟨(mayN_iff b0).2 (by omega), (octN_1 b0 b0 ((mayN_iff b0).2 (by omega))).2 ⟨c4, rfl⟩⟩]
          unfold goodN
          rw [if_neg (by simp; omega)]
          rfl
        · have hm : mayN b0 = true := (mayN_iff b0).2 (by omega)
          rw [if_neg (by rw [octN_1 b0 b0 hm]; omega), if_neg c4, if_neg (by omega), if_neg (by omega), if_neg (by omega)]
          simp [goodN]
end Go.Proofs.Bv
namespace Go.Proofs.Bv
open Go
theorem ok80 : codeOk 17 (Tryz.f80.body.getD .skip) = true := by kernel_rfl
theorem ok81 : codeOk 57 (Tryz.f81.body.getD .skip) = true := by kernel_rfl
def mayI (x : Int) : Bool := decide (0 ≤ x ∧ x ≤ 1114111 ∧ (x < 55296 ∨ 57343 < x))
theorem pc80i (G : Nat → Option (List AV)) (x : Int) : Pc (Cf G) 80 [.sc (.int .i64 x)] (.sc (.bool (mayI x))) := by
  refine Pc_of (Gf_enter (C := Cf G) Tryz.func80 rfl ok80 (Nat.le_of_ble_eq_true rfl) ?_)
  simp only [Tryz.f80, Option.getD_some]
  repeat' first | refine w_op rfl rfl ?_ | refine x_p rfl ?_ | refine w_sr ?_ | refine st_nil ?_ | refine w_seq ?_ | refine st_region ?_ | refine st_block ?_ | refine w_cond ?_ | refine b_t ?_ | refine b_f ?_ | refine st_skip ?_ | refine st_exit ?_ | refine st_ret ?_ | refine st_onNormN ?_ | refine st_onNormE ?_ | refine st_onNormR ?_ | refine st_onExitN ?_ | refine st_onExitR ?_ | refine st_onExitS ?_ | refine st_onExitO (by decide) ?_ | refine g_t ?_ | refine g_f rfl ?_ | refine o_op rfl ?_ | refine w_wr ?_ | refine w_wn ?_ | refine d_c rfl ?_ | refine d_on rfl ?_ | refine d_op rfl ?_ | refine d_y ?_ | refine d_gd rfl ?_ | refine d_t ?_ | refine d_f ?_ | refine d_nil ?_ | refine w_dr rfl ?_ | refine d_q ?_ | refine w_gd rfl ?_ | ((first | refine zE1 ?_); (conv => arg 1; try simp only [go_sem, Nat.reduceEqDiff, reduceIte, Nat.reduceAdd, Nat.reduceLeDiff, Nat.reduceMul, Int.reduceEq, Int.reduceLT, Int.reduceLE, Int.reduceNeg, Int.reduceAdd, Int.reduceSub, Nat.reduceLT, Nat.reduceBEq, Nat.reduceSub, Nat.reducePow]); first | refine zE3 ?_ | refine zE2 ?_ | refine zE4 ?_ | refine zE5 ?_ | refine zE6 ?_ | refine zE7 ?_ | refine zE8 ?_) | (refine w_u false ?_; (conv => arg 1; reduce); refine zR1 ?_) | (refine b_s (fun hb => ?_) (fun hb => ?_) <;> ((try simp only [hn1, hn2, hn3, hn4] at hb); first | (exfalso; omega) | skip)) | (first | refine g_s (fun hb => ?_) (fun hb => ?_) | refine d_s (fun hb => ?_) (fun hb => ?_)) <;> ((try simp only [hn1, hn2] at hb); rw [hb]; try simp only [hn3, hn4] at hb)
  all_goals simp only [one1, frz_s, Option.map_some, mayI, Option.some.injEq, AV.sc.injEq, Value.bool.injEq]
  all_goals rw [Bool.eq_iff_iff]
  all_goals simp only [decide_eq_true_eq, Bool.false_eq_true, true_iff, iff_true, false_iff, iff_false]
  all_goals omega
theorem pc80 (G : Nat → Option (List AV)) (n : Nat) : Pc (Cf G) 80 [.sc (.int .i64 n)] (.sc (.bool (mayN n))) := by
  have h := pc80i G n
  have e : mayI n = mayN n := by
    rw [Bool.eq_iff_iff, mayN_iff]
    unfold mayI
    rw [decide_eq_true_eq]
    omega
  rwa [e] at h
def b8s (l : List Nat) : List AV := l.map fun (d : Nat) => AV.sc (.int .u8 (d : Int))
theorem bo1 (a : Int) : fillA (fun i => some (i * 1, 1)) (rep 1 [.sc (.int .u8 0)]) [(0, .sc (.int .u8 a))] = some [.sc (.int .u8 a)] := rfl
theorem bo2 (a b : Int) : fillA (fun i => some (i * 1, 1)) (rep 2 [.sc (.int .u8 0)]) [(0, .sc (.int .u8 a)), (1, .sc (.int .u8 b))] = some [.sc (.int .u8 a), .sc (.int .u8 b)] := rfl
theorem bo3 (a b c : Int) : fillA (fun i => some (i * 1, 1)) (rep 3 [.sc (.int .u8 0)]) [(0, .sc (.int .u8 a)), (1, .sc (.int .u8 b)), (2, .sc (.int .u8 c))] = some [.sc (.int .u8 a), .sc (.int .u8 b), .sc (.int .u8 c)] := rfl
theorem bo4 (a b c d : Int) : fillA (fun i => some (i * 1, 1)) (rep 4 [.sc (.int .u8 0)]) [(0, .sc (.int .u8 a)), (1, .sc (.int .u8 b)), (2, .sc (.int .u8 c)), (3, .sc (.int .u8 d))] = some [.sc (.int .u8 a), .sc (.int .u8 b), .sc (.int .u8 c), .sc (.int .u8 d)] := rfl
set_option maxHeartbeats 2000000 in
set_option maxRecDepth 100000 in
theorem pc81 (G : Nat → Option (List AV)) (n : Nat) (hn : n ≤ 1114111) : Pc (Cf G) 81 [.sc (.int .i64 n)] (.psl (b8s (octN n)) (octN n).length) := by
  have q : ∀ d : Nat, 0 < d → IntKind.i64.wrap ((n : Int).tdiv (d : Int)) = ((n / d : Nat) : Int) := fun d hd => by
    rw [Int.tdiv_eq_ediv_of_nonneg (by omega)]
    have e : (n : Int) / (d : Int) = ((n / d : Nat) : Int) := by simp
    have : n / d ≤ n := Nat.div_le_self n d
    rw [e]
    generalize n / d = m at this ⊢
    rw [i64 (by omega) (by omega)]
  have q1 : IntKind.i64.wrap ((n : Int).tdiv 64) = ((n / 64 : Nat) : Int) := q 64 (by omega)
  have q2 : IntKind.i64.wrap ((n : Int).tdiv 4096) = ((n / 4096 : Nat) : Int) := q 4096 (by omega)
  have q3 : IntKind.i64.wrap ((n : Int).tdiv 262144) = ((n / 262144 : Nat) : Int) := q 262144 (by omega)
  have r : ∀ m : Nat, (m : Int).tmod 64 = ((m % 64 : Nat) : Int) := fun m => by rw [Int.tmod_eq_emod_of_nonneg (by omega)]; omega
  have a1 : ∀ m : Nat, m ≤ 1114111 → IntKind.i64.wrap (128 + ((m : Nat) : Int)) = ((128 + m : Nat) : Int) := fun m hm => by rw [i64 (by omega) (by omega)]; omega
  have u : ∀ m : Nat, m ≤ 255 → IntKind.u8.wrap (m : Int) = (m : Int) := fun m hm => IntWalk.u8_in _ (by omega)
  have a2 : IntKind.i64.wrap (192 + ((n / 64 : Nat) : Int)) = ((192 + n / 64 : Nat) : Int) := by rw [i64 (by omega) (by omega)]; omega
  have a3 : IntKind.i64.wrap (224 + ((n / 4096 : Nat) : Int)) = ((224 + n / 4096 : Nat) : Int) := by rw [i64 (by omega) (by omega)]; omega
  have a4 : IntKind.i64.wrap (240 + ((n / 262144 : Nat) : Int)) = ((240 + n / 262144 : Nat) : Int) := by rw [i64 (by omega) (by omega)]; omega
  have c1 := a1 (n % 64) (by omega)
  have c2 := a1 (n / 64 % 64) (by omega)
  have c3 := a1 (n / 4096 % 64) (by omega)
  have v1 := u (128 + n % 64) (by omega)
  have v2 := u (128 + n / 64 % 64) (by omega)
  have v3 := u (128 + n / 4096 % 64) (by omega)
  refine Pc_of (Gf_enter (C := Cf G) Tryz.func81 rfl ok81 (Nat.le_of_ble_eq_true rfl) ?_)
  simp only [Tryz.f81, Option.getD_some]
  by_cases h1 : n < 128
  · have g1 : (n : Int) < 128 := by omega
    have v0 := u n (by omega)
    repeat' first | refine w_op rfl rfl ?_ | refine x_p rfl ?_ | refine w_sr ?_ | refine st_nil ?_ | refine w_seq ?_ | refine st_region ?_ | refine st_block ?_ | refine w_cond ?_ | refine b_t ?_ | refine b_f ?_ | refine st_skip ?_ | refine st_exit ?_ | refine st_ret ?_ | refine st_onNormN ?_ | refine st_onNormE ?_ | refine st_onNormR ?_ | refine st_onExitN ?_ | refine st_onExitR ?_ | refine st_onExitS ?_ | refine st_onExitO (by decide) ?_ | refine g_t ?_ | refine g_f rfl ?_ | refine o_op rfl ?_ | refine w_wr ?_ | refine w_wn ?_ | refine d_c rfl ?_ | refine d_on rfl ?_ | refine d_op rfl ?_ | refine d_y ?_ | refine d_gd rfl ?_ | refine d_t ?_ | refine d_f ?_ | refine d_nil ?_ | refine w_dr rfl ?_ | refine d_q ?_ | refine w_gd rfl ?_ | ((first | refine zE1 ?_); (conv => arg 1; try simp only [go_sem, Nat.reduceEqDiff, reduceIte, Nat.reduceAdd, Nat.reduceLeDiff, Nat.reduceMul, Int.reduceEq, Int.reduceLT, Int.reduceLE, Int.reduceNeg, Int.reduceAdd, Int.reduceSub, Nat.reduceLT, Nat.reduceBEq, Nat.reduceSub, Nat.reducePow, g1, v0, bo1]); first | refine zE3 ?_ | refine zE2 ?_ | refine zE4 ?_ | refine zE5 ?_ | refine zE6 ?_ | refine zE7 ?_ | refine zE8 ?_) | (refine w_u false ?_; (conv => arg 1; reduce); refine zR1 ?_) | (refine b_s (fun hb => ?_) (fun hb => ?_) <;> ((try simp only [hn1, hn2, hn3, hn4] at hb); first | (exfalso; omega) | skip)) | (first | refine g_s (fun hb => ?_) (fun hb => ?_) | refine d_s (fun hb => ?_) (fun hb => ?_)) <;> ((try simp only [hn1, hn2] at hb); rw [hb]; try simp only [hn3, hn4] at hb)
    simp only [one1, octN, if_pos h1]
    rfl
  · have g1 : ¬ (n : Int) < 128 := by omega
    by_cases h2 : n < 2048
    · have g2 : (n : Int) < 2048 := by omega
      have v4 := u (192 + n / 64) (by omega)
      repeat' first | refine w_op rfl rfl ?_ | refine x_p rfl ?_ | refine w_sr ?_ | refine st_nil ?_ | refine w_seq ?_ | refine st_region ?_ | refine st_block ?_ | refine w_cond ?_ | refine b_t ?_ | refine b_f ?_ | refine st_skip ?_ | refine st_exit ?_ | refine st_ret ?_ | refine st_onNormN ?_ | refine st_onNormE ?_ | refine st_onNormR ?_ | refine st_onExitN ?_ | refine st_onExitR ?_ | refine st_onExitS ?_ | refine st_onExitO (by decide) ?_ | refine g_t ?_ | refine g_f rfl ?_ | refine o_op rfl ?_ | refine w_wr ?_ | refine w_wn ?_ | refine d_c rfl ?_ | refine d_on rfl ?_ | refine d_op rfl ?_ | refine d_y ?_ | refine d_gd rfl ?_ | refine d_t ?_ | refine d_f ?_ | refine d_nil ?_ | refine w_dr rfl ?_ | refine d_q ?_ | refine w_gd rfl ?_ | ((first | refine zE1 ?_); (conv => arg 1; try simp only [go_sem, Nat.reduceEqDiff, reduceIte, Nat.reduceAdd, Nat.reduceLeDiff, Nat.reduceMul, Int.reduceEq, Int.reduceLT, Int.reduceLE, Int.reduceNeg, Int.reduceAdd, Int.reduceSub, Nat.reduceLT, Nat.reduceBEq, Nat.reduceSub, Nat.reducePow, g1, g2, q1, r, a2, c1, v1, v4, bo2]); first | refine zE3 ?_ | refine zE2 ?_ | refine zE4 ?_ | refine zE5 ?_ | refine zE6 ?_ | refine zE7 ?_ | refine zE8 ?_) | (refine w_u false ?_; (conv => arg 1; reduce); refine zR1 ?_) | (refine b_s (fun hb => ?_) (fun hb => ?_) <;> ((try simp only [hn1, hn2, hn3, hn4] at hb); first | (exfalso; omega) | skip)) | (first | refine g_s (fun hb => ?_) (fun hb => ?_) | refine d_s (fun hb => ?_) (fun hb => ?_)) <;> ((try simp only [hn1, hn2] at hb); rw [hb]; try simp only [hn3, hn4] at hb)
      simp only [one1, octN, if_neg h1, if_pos h2]
      rfl
    · have g2 : ¬ (n : Int) < 2048 := by omega
      by_cases h3 : n < 65536
      · have g3 : (n : Int) < 65536 := by omega
        have v5 := u (224 + n / 4096) (by omega)
        repeat' first | refine w_op rfl rfl ?_ | refine x_p rfl ?_ | refine w_sr ?_ | refine st_nil ?_ | refine w_seq ?_ | refine st_region ?_ | refine st_block ?_ | refine w_cond ?_ | refine b_t ?_ | refine b_f ?_ | refine st_skip ?_ | refine st_exit ?_ | refine st_ret ?_ | refine st_onNormN ?_ | refine st_onNormE ?_ | refine st_onNormR ?_ | refine st_onExitN ?_ | refine st_onExitR ?_ | refine st_onExitS ?_ | refine st_onExitO (by decide) ?_ | refine g_t ?_ | refine g_f rfl ?_ | refine o_op rfl ?_ | refine w_wr ?_ | refine w_wn ?_ | refine d_c rfl ?_ | refine d_on rfl ?_ | refine d_op rfl ?_ | refine d_y ?_ | refine d_gd rfl ?_ | refine d_t ?_ | refine d_f ?_ | refine d_nil ?_ | refine w_dr rfl ?_ | refine d_q ?_ | refine w_gd rfl ?_ | ((first | refine zE1 ?_); (conv => arg 1; try simp only [go_sem, Nat.reduceEqDiff, reduceIte, Nat.reduceAdd, Nat.reduceLeDiff, Nat.reduceMul, Int.reduceEq, Int.reduceLT, Int.reduceLE, Int.reduceNeg, Int.reduceAdd, Int.reduceSub, Nat.reduceLT, Nat.reduceBEq, Nat.reduceSub, Nat.reducePow, g1, g2, g3, q1, q2, r, a3, c1, c2, v1, v2, v5, bo3]); first | refine zE3 ?_ | refine zE2 ?_ | refine zE4 ?_ | refine zE5 ?_ | refine zE6 ?_ | refine zE7 ?_ | refine zE8 ?_) | (refine w_u false ?_; (conv => arg 1; reduce); refine zR1 ?_) | (refine b_s (fun hb => ?_) (fun hb => ?_) <;> ((try simp only [hn1, hn2, hn3, hn4] at hb); first | (exfalso; omega) | skip)) | (first | refine g_s (fun hb => ?_) (fun hb => ?_) | refine d_s (fun hb => ?_) (fun hb => ?_)) <;> ((try simp only [hn1, hn2] at hb); rw [hb]; try simp only [hn3, hn4] at hb)
        simp only [one1, octN, if_neg h1, if_neg h2, if_pos h3]
        rfl
      · have g3 : ¬ (n : Int) < 65536 := by omega
        have v6 := u (240 + n / 262144) (by omega)
        repeat' first | refine w_op rfl rfl ?_ | refine x_p rfl ?_ | refine w_sr ?_ | refine st_nil ?_ | refine w_seq ?_ | refine st_region ?_ | refine st_block ?_ | refine w_cond ?_ | refine b_t ?_ | refine b_f ?_ | refine st_skip ?_ | refine st_exit ?_ | refine st_ret ?_ | refine st_onNormN ?_ | refine st_onNormE ?_ | refine st_onNormR ?_ | refine st_onExitN ?_ | refine st_onExitR ?_ | refine st_onExitS ?_ | refine st_onExitO (by decide) ?_ | refine g_t ?_ | refine g_f rfl ?_ | refine o_op rfl ?_ | refine w_wr ?_ | refine w_wn ?_ | refine d_c rfl ?_ | refine d_on rfl ?_ | refine d_op rfl ?_ | refine d_y ?_ | refine d_gd rfl ?_ | refine d_t ?_ | refine d_f ?_ | refine d_nil ?_ | refine w_dr rfl ?_ | refine d_q ?_ | refine w_gd rfl ?_ | ((first | refine zE1 ?_); (conv => arg 1; try simp only [go_sem, Nat.reduceEqDiff, reduceIte, Nat.reduceAdd, Nat.reduceLeDiff, Nat.reduceMul, Int.reduceEq, Int.reduceLT, Int.reduceLE, Int.reduceNeg, Int.reduceAdd, Int.reduceSub, Nat.reduceLT, Nat.reduceBEq, Nat.reduceSub, Nat.reducePow, g1, g2, g3, q1, q2, q3, r, a4, c1, c2, c3, v1, v2, v3, v6, bo4]); first | refine zE3 ?_ | refine zE2 ?_ | refine zE4 ?_ | refine zE5 ?_ | refine zE6 ?_ | refine zE7 ?_ | refine zE8 ?_) | (refine w_u false ?_; (conv => arg 1; reduce); refine zR1 ?_) | (refine b_s (fun hb => ?_) (fun hb => ?_) <;> ((try simp only [hn1, hn2, hn3, hn4] at hb); first | (exfalso; omega) | skip)) | (first | refine g_s (fun hb => ?_) (fun hb => ?_) | refine d_s (fun hb => ?_) (fun hb => ?_)) <;> ((try simp only [hn1, hn2] at hb); rw [hb]; try simp only [hn3, hn4] at hb)
        simp only [one1, octN, if_neg h1, if_neg h2, if_neg h3]
        rfl
theorem ok42 : codeOk 61 (Tryz.f42.body.getD .skip) = true := by kernel_rfl
def bAt (s : ByteArray) (i : Nat) : Nat := (s.get! i).toNat
def firstS (s : ByteArray) : Nat × Nat := firstN s.size (bAt s 0) (bAt s 1) (bAt s 2) (bAt s 3)
theorem bAt_lt (s : ByteArray) (i : Nat) : bAt s i < 256 := UInt8.toNat_lt _
theorem data_at {s : ByteArray} {i : Nat} (h : i < s.size) : (s.data[i]?).map (fun b => AV.sc (.int .u8 (b.toNat : Int))) = some (AV.sc (.int .u8 (bAt s i : Int))) := by
  have h' : i < s.data.size := h
  rw [Array.getElem?_eq_getElem h']
  simp only [Option.map_some, bAt]
  congr 4
  simp only [ByteArray.get!]
  rw [getElem!_pos s.data i h']
theorem bytesOf_b8s : {l : List Nat} → (∀ d ∈ l, d < 256) → bytesOf (b8s l) = some (l.map UInt8.ofNat)
  | [], _ => rfl
  | d :: l, h => by
    have ih := bytesOf_b8s (l := l) fun x hx => h x (List.mem_cons_of_mem _ hx)
    have hd := h d (by simp)
    have e : b8s (d :: l) = .sc (.int .u8 (d : Int)) :: b8s l := rfl
    rw [e, bytesOf]
    have e2 : byteOf (.sc (.int .u8 (d : Int))) = some (UInt8.ofNat d) := by
      simp only [byteOf]
      rw [if_pos (by omega)]
      rfl
    rw [e2, ih]
    rfl
theorem octN_lt (n : Nat) (hn : n ≤ 1114111) : ∀ d ∈ octN n, d < 256 := by
  unfold octN
  intro d hd
  repeat' split at hd
  all_goals (simp at hd; omega)
end Go.Proofs.Bv
