/-
  A part of the proof of CliLettersUptoCardSaid: CkLaw4.
  Conditions: those that each part names.
-/
import Derived.Test.YtplbncajfignlaaGreatDoorCl16
set_option linter.unusedSimpArgs false
set_option linter.unusedVariables false
namespace Go.Proofs.Bv
open Go
theorem ok4 : codeOk 88 (Tryz.f4.body.getD .skip) = true := by kernel_rfl
def allW : ByteArray := ⟨#[110, 115, 114, 106, 97, 99]⟩
def i64l (l : List Int) : List AV := l.map fun x => .sc (.int .i64 x)
theorem pick_q (x : Int) : ∃ q : Nat, q < 6 ∧ (x.tmod 6 + 6).tmod 6 = (q : Int) ∧ IntKind.i64.wrap (x.tmod 6 + 6) = x.tmod 6 + 6 := by
  have h1 : -6 < x.tmod 6 ∧ x.tmod 6 < 6 := ⟨Int.lt_tmod_of_pos x (by omega), Int.tmod_lt_of_pos x (by omega)⟩
  have h2 : 0 ≤ x.tmod 6 + 6 := by omega
  have h3 : (x.tmod 6 + 6).tmod 6 = (x.tmod 6 + 6) % 6 := Int.tmod_eq_emod_of_nonneg h2
  refine ⟨((x.tmod 6 + 6) % 6).toNat, by omega, by omega, i64 (by omega) (by omega)⟩
theorem pick_l {q : Nat} (hq : q < 6) : ∃ c, isL c = true ∧ allW.extract q (q + 1) = ⟨[c].toArray⟩ := by
  have : q = 0 ∨ q = 1 ∨ q = 2 ∨ q = 3 ∨ q = 4 ∨ q = 5 := by omega
  rcases this with rfl | rfl | rfl | rfl | rfl | rfl
  · exact ⟨110, rfl, rfl⟩
  · exact ⟨115, rfl, rfl⟩
  · exact ⟨114, rfl, rfl⟩
  · exact ⟨106, rfl, rfl⟩
  · exact ⟨97, rfl, rfl⟩
  · exact ⟨99, rfl, rfl⟩
theorem one_add (ks : List UInt8) (c : UInt8) : oneW ks ++ ⟨[c].toArray⟩ = oneW (ks ++ [c]) := by
  apply ByteArray.ext
  simp [oneW, ByteArray.data_append]
structure ManyH (T : Nat → AV) (h : Heap) (n : Nat) (ks : List UInt8) : Prop where
  go : (ks = [] ∧ T 7 = .nilS) ∨ (ks ≠ [] ∧ ∃ b, b < n ∧ T 7 = .osl b 0 ks.length ∧ h b = some (.cells (strs (ks.map cW)) 1 false))
structure LetI (l : List Int) (str : ByteArray) (m : Nat) (s : St) (ks : List UInt8) : Prop where
  le : ks.length ≤ 20
  ll : ks.length ≤ l.length
  me : m = 21 - ks.length
  ok : ∀ c ∈ ks, isL c = true
  t0 : s.T 0 = .psl (i64l l) l.length
  t1 : s.T 1 = .sc (.string str)
  t5 : s.T 5 = .sc (.string ⟨#[110, 115, 114, 106, 97, 99]⟩)
  t6 : s.T 6 = .sc (.string (oneW ks))
  t8 : s.T 8 = .sc (.int .i64 ks.length)
  mh : ManyH s.T s.h s.n ks
set_option maxRecDepth 100000 in
set_option maxHeartbeats 4000000 in
theorem pc4 (G : Nat → Option (List AV)) (l : List Int) (str : ByteArray) (hll : l.length ≤ 140737488355328) (hs : str.size ≤ 140737488355328) : Pc (C6 G) 4 [.psl (i64l l) l.length, .sc (.string str)] (.sc (.bool true)) := by
  have hal := pc13 G
  refine Pc_of (Gf_enter (C := C6 G) Tryz.func4 rfl ok4 (Nat.le_of_ble_eq_true rfl) ?_)
  simp only [Tryz.f4, Option.getD_some]
  repeat' first | refine w_op rfl rfl ?_ | refine x_p rfl ?_ | refine w_sr ?_ | refine st_nil ?_ | refine w_seq ?_ | refine st_region ?_ | refine st_block ?_ | refine w_cond ?_ | refine b_t ?_ | refine b_f ?_ | refine st_skip ?_ | refine st_exit ?_ | refine st_ret ?_ | refine st_onNormN ?_ | refine st_onNormE ?_ | refine st_onNormR ?_ | refine st_onExitN ?_ | refine st_onExitR ?_ | refine st_onExitS ?_ | refine st_onExitO (by decide) ?_ | refine g_t ?_ | refine g_f rfl ?_ | refine o_op rfl ?_ | refine w_wr ?_ | refine w_wn ?_ | refine d_c rfl ?_ | refine d_on rfl ?_ | refine d_op rfl ?_ | refine d_y ?_ | refine d_gd rfl ?_ | refine d_t ?_ | refine d_f ?_ | refine d_nil ?_ | refine w_dr rfl ?_ | refine d_q ?_ | refine n_0 rfl ?_ | refine d_n ?_ | refine k_p rfl rfl rfl rfl (hal) ?_ | refine w_gd rfl ?_ | ((first | refine zE1 ?_ | refine w_cl rfl rfl ?_ | refine o_cl rfl ?_ | refine d_cl rfl ?_); (conv => arg 1; try simp only [go_sem, Nat.reduceEqDiff, reduceIte, Nat.reduceAdd, Nat.reduceLeDiff, Nat.reduceMul, Int.reduceEq, Int.reduceLT, Int.reduceLE, Int.reduceNeg, Int.reduceAdd, Int.reduceSub, Nat.reduceLT, Nat.reduceBEq, Nat.reduceSub, Nat.reducePow, Option.map_none, Option.isSome_none]); first | refine zE3 ?_ | refine zE2 ?_ | refine zE4 ?_ | refine zE5 ?_ | refine zE6 ?_ | refine zE7 ?_ | refine zE8 ?_) | (refine w_u false ?_; (conv => arg 1; reduce); refine zR1 ?_) | (refine b_s (fun hb => ?_) (fun hb => ?_) <;> ((try simp only [hn1, hn2, hn3, hn4] at hb); first | (exfalso; omega) | skip)) | (first | refine g_s (fun hb => ?_) (fun hb => ?_) | refine d_s (fun hb => ?_) (fun hb => ?_)) <;> ((try simp only [hn1, hn2] at hb); rw [hb]; try simp only [hn3, hn4] at hb)
  refine Gc_loop_inv (fun m s => ∃ ks, LetI l str m s ks) ?_ 21 _ ⟨[], by simp, by simp, rfl, by simp, rfl, rfl, rfl, rfl, rfl, ⟨.inl ⟨rfl, rfl⟩⟩⟩
  rintro m ⟨T, h, n⟩ ⟨ks, hle, hlk, hm, hok, t0, t1, t5, t6, t8, ⟨hmany⟩⟩
  simp only at t0 t1 t5 t6 t8 hmany
  have step : ∀ (x : Int), ∃ (q : Nat) (c : UInt8), (x.tmod 6 + 6).tmod 6 = (q : Int) ∧ IntKind.i64.wrap (x.tmod 6 + 6) = x.tmod 6 + 6 ∧ isL c = true ∧ IntKind.i64.wrap ((q : Int) + 1) = ((q + 1 : Nat) : Int) ∧
      bnds 6 (some (.sc (.int .i64 q))) (some (.sc (.int .i64 (q + 1 : Nat)))) = some (q, q + 1) ∧ ByteArray.extract ⟨#[110, 115, 114, 106, 97, 99]⟩ q (q + 1) = ⟨[c].toArray⟩ := by
    intro x
    obtain ⟨q, hq, hq2, hq3⟩ := pick_q x
    obtain ⟨c, hc, hx⟩ := pick_l hq
    refine ⟨q, c, hq2, hq3, hc, by rw [i64 (by omega) (by omega)]; rfl, ?_, hx⟩
    simp only [bnds, asNat_nat]
    rw [if_pos (by omega)]
  have ha1 : ks.length ≤ 20 → ∀ c t xo yo, vbin Tryz.prog .add t xo yo (.sc (.string (oneW ks))) (.sc (.string ⟨[c].toArray⟩)) = some (.sc (.string (oneW (ks ++ [c])))) := fun h20 c t xo yo => by
    rw [ev_sadd (by simp only [oneW, ByteArray.size, List.size_toArray, List.length_cons, List.length_nil]; omega), one_add]
  have ha2 : ∀ c t xo yo, vbin Tryz.prog .add t xo yo (.sc (.string ⟨#[45]⟩)) (.sc (.string ⟨[c].toArray⟩)) = some (.sc (.string (cW c))) := fun c t xo yo => by
    rw [ev_sadd (Nat.le_of_ble_eq_true rfl)]
    rfl
  by_cases hgo : ks.length < l.length ∧ ks.length < 20
  · obtain ⟨hlt, h20⟩ := hgo
    have ha1 := ha1 hle
    rcases hmany with ⟨rfl, t7⟩ | ⟨hne, b, hbn, t7, hhb⟩
    · have hlt : 0 < l.length := hlt
      have hlt' : (0 < l.length) = True := eq_true hlt
      have hlt2 : ((0 : Int) < l.length) = True := eq_true (by omega)
      have hget : (i64l l)[0]? = some (.sc (.int .i64 l[0])) := by simp [i64l, hlt]
      have t8 : T 8 = .sc (.int .i64 0) := t8
      obtain ⟨q, c, hq2, hq3, hc, hq1, hb, hx⟩ := step l[0]
      repeat' first | refine w_op rfl rfl ?_ | refine x_p rfl ?_ | refine w_sr ?_ | refine st_nil ?_ | refine w_seq ?_ | refine st_region ?_ | refine st_block ?_ | refine w_cond ?_ | refine b_t ?_ | refine b_f ?_ | refine st_skip ?_ | refine st_exit ?_ | refine st_ret ?_ | refine st_onNormN ?_ | refine st_onNormE ?_ | refine st_onNormR ?_ | refine st_onExitN ?_ | refine st_onExitR ?_ | refine st_onExitS ?_ | refine st_onExitO (by decide) ?_ | refine g_t ?_ | refine g_f rfl ?_ | refine o_op rfl ?_ | refine w_wr ?_ | refine w_wn ?_ | refine d_c rfl ?_ | refine d_on rfl ?_ | refine d_op rfl ?_ | refine d_y ?_ | refine d_gd rfl ?_ | refine d_t ?_ | refine d_f ?_ | refine d_nil ?_ | refine w_dr rfl ?_ | refine d_q ?_ | refine w_gd rfl ?_ | ((first | refine zE1 ?_); (conv => arg 1; try simp only [go_sem, Nat.reduceEqDiff, reduceIte, Nat.reduceAdd, Nat.reduceLeDiff, Nat.reduceMul, Int.reduceEq, Int.reduceLT, Int.reduceLE, Int.reduceNeg, Int.reduceAdd, Int.reduceSub, Nat.reduceLT, Nat.reduceBEq, Nat.reduceSub, Nat.reducePow, t0, t1, t5, t6, t7, t8, hlt', hlt2, hget, hq2, hq3, hq1, hb, hx, ha1, ha2, Option.map_none, Option.isSome_none, Nat.reducePow, Int.natCast_zero, Int.natCast_one]); first | refine zE3 ?_ | refine zE2 ?_ | refine zE4 ?_ | refine zE5 ?_ | refine zE6 ?_ | refine zE7 ?_ | refine zE8 ?_) | (refine w_u false ?_; (conv => arg 1; reduce); refine zR1 ?_) | (refine b_s (fun hb => ?_) (fun hb => ?_) <;> ((try simp only [hn1, hn2, hn3, hn4] at hb); first | (exfalso; omega) | skip)) | (first | refine g_s (fun hb => ?_) (fun hb => ?_) | refine d_s (fun hb => ?_) (fun hb => ?_)) <;> ((try simp only [hn1, hn2] at hb); rw [hb]; try simp only [hn3, hn4] at hb)
      refine ⟨m - 1, by rw [hm]; show 21 - 0 - 1 < 21 - 0; omega, [c], by show 1 ≤ 20; omega, hlt, by rw [hm]; rfl, by simpa using hc, ?_, ?_, ?_, ?_, ?_, ⟨.inr ⟨by simp, n + 1, by show n + 1 < n + 1 + 1; omega, ?_, ?_⟩⟩⟩
      · simp only [upd_ap, Nat.reduceEqDiff, reduceIte, t0]
      · simp only [upd_ap, Nat.reduceEqDiff, reduceIte, t1]
      · simp only [upd_ap, Nat.reduceEqDiff, reduceIte, t5]
      · simp only [upd_ap, Nat.reduceEqDiff, reduceIte]; try rfl
      · simp only [upd_ap, Nat.reduceEqDiff, reduceIte]; try rfl
      · simp only [upd_ap, Nat.reduceEqDiff, reduceIte]; try rfl
      · simp only [upd_same]; rfl
    · have h20' : (ks.length : Int) < 20 := by omega
      have hlt' : (ks.length < l.length) = True := eq_true hlt
      have hlt2 : ((ks.length : Int) < l.length) = True := eq_true (by omega)
      have hget : (i64l l)[ks.length * 1]? = some (.sc (.int .i64 l[ks.length])) := by simp [i64l, hlt]
      have hi1 : IntKind.i64.wrap ((ks.length : Int) + 1) = ((ks.length + 1 : Nat) : Int) := by rw [i64 (by omega) (by omega)]; rfl
      obtain ⟨q, c, hq2, hq3, hc, hq1, hb, hx⟩ := step l[ks.length]
      have e1 : (b = n) = False := eq_false (by omega)
      have e2 : (n = b) = False := eq_false (by omega)
      have e3 : (b = n + 1) = False := eq_false (by omega)
      have f1 : (ks.length * 1 ≤ (strs (ks.map cW)).length) = True := eq_true (by rw [strs_len, List.length_map]; omega)
      have f2 : ((ks.length + 1) * 16 ≤ 140737488355328) = True := eq_true (by omega)
      have f3 : (ks.length + 1 ≤ 140737488355328) = True := eq_true (by omega)
      have f4 : cut (strs (ks.map cW)) 0 (ks.length * 1) = strs (ks.map cW) := by
        have e : (strs (ks.map cW)).length = ks.length * 1 := by rw [strs_len, List.length_map]; omega
        simp [cut, ← e]
      repeat' first | refine w_op rfl rfl ?_ | refine x_p rfl ?_ | refine w_sr ?_ | refine st_nil ?_ | refine w_seq ?_ | refine st_region ?_ | refine st_block ?_ | refine w_cond ?_ | refine b_t ?_ | refine b_f ?_ | refine st_skip ?_ | refine st_exit ?_ | refine st_ret ?_ | refine st_onNormN ?_ | refine st_onNormE ?_ | refine st_onNormR ?_ | refine st_onExitN ?_ | refine st_onExitR ?_ | refine st_onExitS ?_ | refine st_onExitO (by decide) ?_ | refine g_t ?_ | refine g_f rfl ?_ | refine o_op rfl ?_ | refine w_wr ?_ | refine w_wn ?_ | refine d_c rfl ?_ | refine d_on rfl ?_ | refine d_op rfl ?_ | refine d_y ?_ | refine d_gd rfl ?_ | refine d_t ?_ | refine d_f ?_ | refine d_nil ?_ | refine w_dr rfl ?_ | refine d_q ?_ | refine w_gd rfl ?_ | ((first | refine zE1 ?_); (conv => arg 1; try simp only [go_sem, Nat.reduceEqDiff, reduceIte, Nat.reduceAdd, Nat.reduceLeDiff, Nat.reduceMul, Int.reduceEq, Int.reduceLT, Int.reduceLE, Int.reduceNeg, Int.reduceAdd, Int.reduceSub, Nat.reduceLT, Nat.reduceBEq, Nat.reduceSub, Nat.reducePow, t0, t1, t5, t6, t7, t8, hhb, e1, e2, e3, f1, f2, f3, f4, hlt', hlt2, h20', hget, hq2, hq3, hq1, hi1, hb, hx, ha1, ha2, Option.map_none, Option.isSome_none, Nat.reducePow, Int.natCast_zero]); first | refine zE3 ?_ | refine zE2 ?_ | refine zE4 ?_ | refine zE5 ?_ | refine zE6 ?_ | refine zE7 ?_ | refine zE8 ?_) | (refine w_u false ?_; (conv => arg 1; reduce); refine zR1 ?_) | (refine b_s (fun hb => ?_) (fun hb => ?_) <;> ((try simp only [hn1, hn2, hn3, hn4] at hb); first | (exfalso; omega) | skip)) | (first | refine g_s (fun hb => ?_) (fun hb => ?_) | refine d_s (fun hb => ?_) (fun hb => ?_)) <;> ((try simp only [hn1, hn2] at hb); rw [hb]; try simp only [hn3, hn4] at hb)
      refine ⟨m - 1, by rw [hm]; omega, ks ++ [c], by simp; omega, by simp; omega, by rw [hm]; simp; omega, fun x hx => ?_, ?_, ?_, ?_, ?_, ?_, ⟨.inr ⟨by simp, n + 1, by show n + 1 < n + 1 + 1; omega, ?_, ?_⟩⟩⟩
      · rcases List.mem_append.1 hx with hx | hx
        · exact hok x hx
        · rw [List.mem_singleton.1 hx]; exact hc
      · simp only [upd_ap, Nat.reduceEqDiff, reduceIte, t0]
      · simp only [upd_ap, Nat.reduceEqDiff, reduceIte, t1]
      · simp only [upd_ap, Nat.reduceEqDiff, reduceIte, t5]
      · simp only [upd_ap, Nat.reduceEqDiff, reduceIte]
      · simp only [upd_ap, Nat.reduceEqDiff, reduceIte, List.length_append, List.length_cons, List.length_nil, Nat.zero_add]
      · simp only [upd_ap, Nat.reduceEqDiff, reduceIte, List.length_append, List.length_cons, List.length_nil, Nat.zero_add]
      · simp only [upd_same, strs, List.map_append, List.map_cons, List.map_nil]
  · rcases hmany with ⟨rfl, t7⟩ | ⟨hne, b, hbn, t7, hhb⟩
    · have hl0 : l.length = 0 := by
        have : ¬ (0 < l.length ∧ 0 < 20) := hgo
        omega
      have hlt2 : ((0 : Int) < l.length) = False := eq_false (by omega)
      have t8 : T 8 = .sc (.int .i64 0) := t8
      repeat' first | refine w_op rfl rfl ?_ | refine x_p rfl ?_ | refine w_sr ?_ | refine st_nil ?_ | refine w_seq ?_ | refine st_region ?_ | refine st_block ?_ | refine w_cond ?_ | refine b_t ?_ | refine b_f ?_ | refine st_skip ?_ | refine st_exit ?_ | refine st_ret ?_ | refine st_onNormN ?_ | refine st_onNormE ?_ | refine st_onNormR ?_ | refine st_onExitN ?_ | refine st_onExitR ?_ | refine st_onExitS ?_ | refine st_onExitO (by decide) ?_ | refine g_t ?_ | refine g_f rfl ?_ | refine o_op rfl ?_ | refine w_wr ?_ | refine w_wn ?_ | refine d_c rfl ?_ | refine d_on rfl ?_ | refine d_op rfl ?_ | refine d_y ?_ | refine d_gd rfl ?_ | refine d_t ?_ | refine d_f ?_ | refine d_nil ?_ | refine w_dr rfl ?_ | refine d_q ?_ | refine w_gd rfl ?_ | ((first | refine zE1 ?_); (conv => arg 1; try simp only [go_sem, Nat.reduceEqDiff, reduceIte, Nat.reduceAdd, Nat.reduceLeDiff, Nat.reduceMul, Int.reduceEq, Int.reduceLT, Int.reduceLE, Int.reduceNeg, Int.reduceAdd, Int.reduceSub, Nat.reduceLT, Nat.reduceBEq, Nat.reduceSub, Nat.reducePow, t0, t1, t5, t6, t7, t8, hlt2, Option.map_none, Option.isSome_none, Nat.reducePow, Int.natCast_zero, Int.natCast_one]); first | refine zE3 ?_ | refine zE2 ?_ | refine zE4 ?_ | refine zE5 ?_ | refine zE6 ?_ | refine zE7 ?_ | refine zE8 ?_) | (refine w_u false ?_; (conv => arg 1; reduce); refine zR1 ?_) | (refine b_s (fun hb => ?_) (fun hb => ?_) <;> ((try simp only [hn1, hn2, hn3, hn4] at hb); first | (exfalso; omega) | skip)) | (first | refine g_s (fun hb => ?_) (fun hb => ?_) | refine d_s (fun hb => ?_) (fun hb => ?_)) <;> ((try simp only [hn1, hn2] at hb); rw [hb]; try simp only [hn3, hn4] at hb)
      simp only [one1, frz_sc, Option.map_some]
    · obtain ⟨ok1, p1⟩ := r_one ks hne hok hle str hs
      obtain ⟨ok2, p2⟩ := r_many ks hok hle str hs
      have q1 := orcParse_of [oneW ks, wDD, str] 3 rfl ok1
      have q2 := orcParse_of (ks.map cW ++ [wDD, str]) (ks.length + 2) (by simp) ok2
      rw [p1] at q1
      rw [p2] at q2
      have es : strs (ks.map cW ++ [wDD, str]) = strs (ks.map cW) ++ [AV.sc (.string ⟨#[45, 45]⟩), AV.sc (.string str)] := by simp [strs]; rfl
      rw [es] at q2
      clear p1 p2
      have hpos : 0 < ks.length := List.length_pos_iff.2 hne
      have hne0 : ((ks.length : Int) = 0) = False := eq_false (by omega)
      have e1 : (b = n) = False := eq_false (by omega)
      have e2 : (n = b) = False := eq_false (by omega)
      have e3 : (b = n + 1) = False := eq_false (by omega)
      have e4 : (b = n + 1 + 1) = False := eq_false (by omega)
      have e5 : (b = n + 1 + 1 + 1) = False := eq_false (by omega)
      have e6 : (b = n + 1 + 1 + 1 + 1) = False := eq_false (by omega)
      have k0 : (b == n) = false := beq_eq_false_iff_ne.2 (by omega)
      have m1 : (n + 1 = n + 1 + 1) = False := eq_false (by omega)
      have m2 : (n + 1 = n + 1 + 1 + 1) = False := eq_false (by omega)
      have m3 : (n + 1 = n + 1 + 1 + 1 + 1) = False := eq_false (by omega)
      have m4 : (n + 1 = b) = False := eq_false (by omega)
      have m5 : (n + 1 == n + 1 + 1 + 1) = false := beq_eq_false_iff_ne.2 (by omega)
      have m6 : (n + 1 = n) = False := eq_false (by omega)
      have k1 : (n + 1 == n) = false := beq_eq_false_iff_ne.2 (by omega)
      have k2 : (n + 1 + 1 == n) = false := beq_eq_false_iff_ne.2 (by omega)
      have k3 : (n + 1 + 1 + 1 == n) = false := beq_eq_false_iff_ne.2 (by omega)
      have f1 : (ks.length * 1 ≤ (strs (ks.map cW)).length) = True := eq_true (by rw [strs_len, List.length_map]; omega)
      have f2 : ((ks.length + 2) * 16 ≤ 140737488355328) = True := eq_true (by omega)
      have f3 : (ks.length + 2 ≤ 140737488355328) = True := eq_true (by omega)
      have f4 : cut (strs (ks.map cW)) 0 (ks.length * 1) = strs (ks.map cW) := by
        have e : (strs (ks.map cW)).length = ks.length * 1 := by rw [strs_len, List.length_map]; omega
        simp [cut, ← e]
      have f5 : ((strs (ks.map cW) ++ [AV.sc (.string ⟨#[45, 45]⟩), AV.sc (.string str)]).length = (ks.length + 2) * 1) = True := eq_true (by simp [strs_len])
      have f6 : purs (strs (ks.map cW) ++ [AV.sc (.string ⟨#[45, 45]⟩), AV.sc (.string str)]) = true := by rw [purs_app, strs_pur]; rfl
      have hsame := fun b1 b2 b3 b4 b5 ind => orcL_of (pc15 G b1 b2 b3 b4 b5 ind)
      generalize stF ks ps0 = S at q1 q2
      obtain ⟨nl, sl, rw', jn, asc, ind, nm, pos, fl, fd, pl⟩ := S
      simp only [optsR, opts0] at q1 q2
      have hexit : (((ks.length : Int) < l.length) = False) ∨ (((ks.length : Int) < l.length) = True ∧ ((ks.length : Int) < 20) = False) := by
        by_cases h : ks.length < l.length
        · exact .inr ⟨eq_true (by omega), eq_false (by omega)⟩
        · exact .inl (eq_false (by omega))
      by_cases hc : (chkFrom str 0).2 = 0
      · rw [if_pos hc] at q1 q2
        rcases hexit with g1 | ⟨g1, g2⟩
        · repeat' first | refine w_op rfl rfl ?_ | refine x_p rfl ?_ | refine w_sr ?_ | refine st_nil ?_ | refine w_seq ?_ | refine st_region ?_ | refine st_block ?_ | refine w_cond ?_ | refine b_t ?_ | refine b_f ?_ | refine st_skip ?_ | refine st_exit ?_ | refine st_ret ?_ | refine st_onNormN ?_ | refine st_onNormE ?_ | refine st_onNormR ?_ | refine st_onExitN ?_ | refine st_onExitR ?_ | refine st_onExitS ?_ | refine st_onExitO (by decide) ?_ | refine g_t ?_ | refine g_f rfl ?_ | refine o_op rfl ?_ | refine w_wr ?_ | refine w_wn ?_ | refine d_c rfl ?_ | refine d_on rfl ?_ | refine d_op rfl ?_ | refine d_y ?_ | refine d_gd rfl ?_ | refine d_t ?_ | refine d_f ?_ | refine d_nil ?_ | refine w_dr rfl ?_ | refine d_q ?_ | refine n_0 rfl ?_ | refine d_n ?_ | refine k_o rfl rfl rfl ?_ | refine k_z rfl ?_ | refine z_f rfl rfl (q1) rfl ?_ | refine z_g rfl rfl (q1) rfl ?_ | refine z_of rfl rfl (q1) rfl ?_ | refine z_og rfl rfl (q1) rfl ?_ | refine d_m (Nat.le_refl _) ?_ | refine z_f rfl rfl (q2) rfl ?_ | refine z_g rfl rfl (q2) rfl ?_ | refine z_of rfl rfl (q2) rfl ?_ | refine z_og rfl rfl (q2) rfl ?_ | refine w_gd rfl ?_ | ((first | refine zE1 ?_ | refine w_cl rfl rfl ?_ | refine o_cl rfl ?_ | refine d_cl rfl ?_); (conv => arg 1; try simp only [go_sem, Nat.reduceEqDiff, reduceIte, Nat.reduceAdd, Nat.reduceLeDiff, Nat.reduceMul, Int.reduceEq, Int.reduceLT, Int.reduceLE, Int.reduceNeg, Int.reduceAdd, Int.reduceSub, Nat.reduceLT, Nat.reduceBEq, Nat.reduceSub, Nat.reducePow, t0, t1, t5, t6, t7, t8, hhb, hne0, shut_at, e1, e2, e3, e4, e5, e6, k0, k1, k2, k3, m1, m2, m3, m4, m5, m6, f1, f2, f3, f4, f5, f6, hsame, g1, Option.map_none, Option.isSome_none, Nat.reducePow, Int.natCast_zero]); first | refine zE3 ?_ | refine zE2 ?_ | refine zE4 ?_ | refine zE5 ?_ | refine zE6 ?_ | refine zE7 ?_ | refine zE8 ?_) | (refine w_u false ?_; (conv => arg 1; reduce); refine zR1 ?_) | (refine b_s (fun hb => ?_) (fun hb => ?_) <;> ((try simp only [hn1, hn2, hn3, hn4] at hb); first | (exfalso; omega) | skip)) | (first | refine g_s (fun hb => ?_) (fun hb => ?_) | refine d_s (fun hb => ?_) (fun hb => ?_)) <;> ((try simp only [hn1, hn2] at hb); rw [hb]; try simp only [hn3, hn4] at hb)
          simp only [one1, frz_sc, Option.map_some]
        · repeat' first | refine w_op rfl rfl ?_ | refine x_p rfl ?_ | refine w_sr ?_ | refine st_nil ?_ | refine w_seq ?_ | refine st_region ?_ | refine st_block ?_ | refine w_cond ?_ | refine b_t ?_ | refine b_f ?_ | refine st_skip ?_ | refine st_exit ?_ | refine st_ret ?_ | refine st_onNormN ?_ | refine st_onNormE ?_ | refine st_onNormR ?_ | refine st_onExitN ?_ | refine st_onExitR ?_ | refine st_onExitS ?_ | refine st_onExitO (by decide) ?_ | refine g_t ?_ | refine g_f rfl ?_ | refine o_op rfl ?_ | refine w_wr ?_ | refine w_wn ?_ | refine d_c rfl ?_ | refine d_on rfl ?_ | refine d_op rfl ?_ | refine d_y ?_ | refine d_gd rfl ?_ | refine d_t ?_ | refine d_f ?_ | refine d_nil ?_ | refine w_dr rfl ?_ | refine d_q ?_ | refine n_0 rfl ?_ | refine d_n ?_ | refine k_o rfl rfl rfl ?_ | refine k_z rfl ?_ | refine z_f rfl rfl (q1) rfl ?_ | refine z_g rfl rfl (q1) rfl ?_ | refine z_of rfl rfl (q1) rfl ?_ | refine z_og rfl rfl (q1) rfl ?_ | refine d_m (Nat.le_refl _) ?_ | refine z_f rfl rfl (q2) rfl ?_ | refine z_g rfl rfl (q2) rfl ?_ | refine z_of rfl rfl (q2) rfl ?_ | refine z_og rfl rfl (q2) rfl ?_ | refine w_gd rfl ?_ | ((first | refine zE1 ?_ | refine w_cl rfl rfl ?_ | refine o_cl rfl ?_ | refine d_cl rfl ?_); (conv => arg 1; try simp only [go_sem, Nat.reduceEqDiff, reduceIte, Nat.reduceAdd, Nat.reduceLeDiff, Nat.reduceMul, Int.reduceEq, Int.reduceLT, Int.reduceLE, Int.reduceNeg, Int.reduceAdd, Int.reduceSub, Nat.reduceLT, Nat.reduceBEq, Nat.reduceSub, Nat.reducePow, t0, t1, t5, t6, t7, t8, hhb, hne0, shut_at, e1, e2, e3, e4, e5, e6, k0, k1, k2, k3, m1, m2, m3, m4, m5, m6, f1, f2, f3, f4, f5, f6, hsame, g1, g2, Option.map_none, Option.isSome_none, Nat.reducePow, Int.natCast_zero]); first | refine zE3 ?_ | refine zE2 ?_ | refine zE4 ?_ | refine zE5 ?_ | refine zE6 ?_ | refine zE7 ?_ | refine zE8 ?_) | (refine w_u false ?_; (conv => arg 1; reduce); refine zR1 ?_) | (refine b_s (fun hb => ?_) (fun hb => ?_) <;> ((try simp only [hn1, hn2, hn3, hn4] at hb); first | (exfalso; omega) | skip)) | (first | refine g_s (fun hb => ?_) (fun hb => ?_) | refine d_s (fun hb => ?_) (fun hb => ?_)) <;> ((try simp only [hn1, hn2] at hb); rw [hb]; try simp only [hn3, hn4] at hb)
          simp only [one1, frz_sc, Option.map_some]
      · rw [if_neg hc] at q1 q2
        have h61 : (chkFrom str 0).2 = 61 := by have := chk_codes str 0; omega
        rw [h61] at q1 q2
        rcases hexit with g1 | ⟨g1, g2⟩
        · repeat' first | refine w_op rfl rfl ?_ | refine x_p rfl ?_ | refine w_sr ?_ | refine st_nil ?_ | refine w_seq ?_ | refine st_region ?_ | refine st_block ?_ | refine w_cond ?_ | refine b_t ?_ | refine b_f ?_ | refine st_skip ?_ | refine st_exit ?_ | refine st_ret ?_ | refine st_onNormN ?_ | refine st_onNormE ?_ | refine st_onNormR ?_ | refine st_onExitN ?_ | refine st_onExitR ?_ | refine st_onExitS ?_ | refine st_onExitO (by decide) ?_ | refine g_t ?_ | refine g_f rfl ?_ | refine o_op rfl ?_ | refine w_wr ?_ | refine w_wn ?_ | refine d_c rfl ?_ | refine d_on rfl ?_ | refine d_op rfl ?_ | refine d_y ?_ | refine d_gd rfl ?_ | refine d_t ?_ | refine d_f ?_ | refine d_nil ?_ | refine w_dr rfl ?_ | refine d_q ?_ | refine n_0 rfl ?_ | refine d_n ?_ | refine k_o rfl rfl rfl ?_ | refine k_z rfl ?_ | refine z_f rfl rfl (q1) rfl ?_ | refine z_g rfl rfl (q1) rfl ?_ | refine z_of rfl rfl (q1) rfl ?_ | refine z_og rfl rfl (q1) rfl ?_ | refine d_m (Nat.le_refl _) ?_ | refine z_f rfl rfl (q2) rfl ?_ | refine z_g rfl rfl (q2) rfl ?_ | refine z_of rfl rfl (q2) rfl ?_ | refine z_og rfl rfl (q2) rfl ?_ | refine w_gd rfl ?_ | ((first | refine zE1 ?_ | refine w_cl rfl rfl ?_ | refine o_cl rfl ?_ | refine d_cl rfl ?_); (conv => arg 1; try simp only [go_sem, Nat.reduceEqDiff, reduceIte, Nat.reduceAdd, Nat.reduceLeDiff, Nat.reduceMul, Int.reduceEq, Int.reduceLT, Int.reduceLE, Int.reduceNeg, Int.reduceAdd, Int.reduceSub, Nat.reduceLT, Nat.reduceBEq, Nat.reduceSub, Nat.reducePow, t0, t1, t5, t6, t7, t8, hhb, hne0, shut_at, e1, e2, e3, e4, e5, e6, k0, k1, k2, k3, m1, m2, m3, m4, m5, m6, f1, f2, f3, f4, f5, f6, hsame, g1, Option.map_none, Option.isSome_none, Nat.reducePow, Int.natCast_zero]); first | refine zE3 ?_ | refine zE2 ?_ | refine zE4 ?_ | refine zE5 ?_ | refine zE6 ?_ | refine zE7 ?_ | refine zE8 ?_) | (refine w_u false ?_; (conv => arg 1; reduce); refine zR1 ?_) | (refine b_s (fun hb => ?_) (fun hb => ?_) <;> ((try simp only [hn1, hn2, hn3, hn4] at hb); first | (exfalso; omega) | skip)) | (first | refine g_s (fun hb => ?_) (fun hb => ?_) | refine d_s (fun hb => ?_) (fun hb => ?_)) <;> ((try simp only [hn1, hn2] at hb); rw [hb]; try simp only [hn3, hn4] at hb)
          simp only [one1, frz_sc, Option.map_some]
        · repeat' first | refine w_op rfl rfl ?_ | refine x_p rfl ?_ | refine w_sr ?_ | refine st_nil ?_ | refine w_seq ?_ | refine st_region ?_ | refine st_block ?_ | refine w_cond ?_ | refine b_t ?_ | refine b_f ?_ | refine st_skip ?_ | refine st_exit ?_ | refine st_ret ?_ | refine st_onNormN ?_ | refine st_onNormE ?_ | refine st_onNormR ?_ | refine st_onExitN ?_ | refine st_onExitR ?_ | refine st_onExitS ?_ | refine st_onExitO (by decide) ?_ | refine g_t ?_ | refine g_f rfl ?_ | refine o_op rfl ?_ | refine w_wr ?_ | refine w_wn ?_ | refine d_c rfl ?_ | refine d_on rfl ?_ | refine d_op rfl ?_ | refine d_y ?_ | refine d_gd rfl ?_ | refine d_t ?_ | refine d_f ?_ | refine d_nil ?_ | refine w_dr rfl ?_ | refine d_q ?_ | refine n_0 rfl ?_ | refine d_n ?_ | refine k_o rfl rfl rfl ?_ | refine k_z rfl ?_ | refine z_f rfl rfl (q1) rfl ?_ | refine z_g rfl rfl (q1) rfl ?_ | refine z_of rfl rfl (q1) rfl ?_ | refine z_og rfl rfl (q1) rfl ?_ | refine d_m (Nat.le_refl _) ?_ | refine z_f rfl rfl (q2) rfl ?_ | refine z_g rfl rfl (q2) rfl ?_ | refine z_of rfl rfl (q2) rfl ?_ | refine z_og rfl rfl (q2) rfl ?_ | refine w_gd rfl ?_ | ((first | refine zE1 ?_ | refine w_cl rfl rfl ?_ | refine o_cl rfl ?_ | refine d_cl rfl ?_); (conv => arg 1; try simp only [go_sem, Nat.reduceEqDiff, reduceIte, Nat.reduceAdd, Nat.reduceLeDiff, Nat.reduceMul, Int.reduceEq, Int.reduceLT, Int.reduceLE, Int.reduceNeg, Int.reduceAdd, Int.reduceSub, Nat.reduceLT, Nat.reduceBEq, Nat.reduceSub, Nat.reducePow, t0, t1, t5, t6, t7, t8, hhb, hne0, shut_at, e1, e2, e3, e4, e5, e6, k0, k1, k2, k3, m1, m2, m3, m4, m5, m6, f1, f2, f3, f4, f5, f6, hsame, g1, g2, Option.map_none, Option.isSome_none, Nat.reducePow, Int.natCast_zero]); first | refine zE3 ?_ | refine zE2 ?_ | refine zE4 ?_ | refine zE5 ?_ | refine zE6 ?_ | refine zE7 ?_ | refine zE8 ?_) | (refine w_u false ?_; (conv => arg 1; reduce); refine zR1 ?_) | (refine b_s (fun hb => ?_) (fun hb => ?_) <;> ((try simp only [hn1, hn2, hn3, hn4] at hb); first | (exfalso; omega) | skip)) | (first | refine g_s (fun hb => ?_) (fun hb => ?_) | refine d_s (fun hb => ?_) (fun hb => ?_)) <;> ((try simp only [hn1, hn2] at hb); rw [hb]; try simp only [hn3, hn4] at hb)
          simp only [one1, frz_sc, Option.map_some]
end Go.Proofs.Bv
