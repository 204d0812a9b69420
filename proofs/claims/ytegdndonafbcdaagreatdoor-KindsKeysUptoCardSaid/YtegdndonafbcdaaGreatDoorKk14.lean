/-
  A part of the proof of KindsKeysUptoCardSaid: BkLimbs, BkMade.
  Conditions: those that each part names.
-/
import Derived.Test.YtegdndonafbcdaaGreatDoorKk13
set_option linter.unusedSimpArgs false
set_option linter.unusedVariables false
namespace Go.Proofs.Bv
open Go
section
variable {P : Program} {h : Heap} {n t : Nat} {xo yo : Operand}
theorem ev_shr32i {yk : IntKind} {a : Int} : vbin P .shr t xo yo (.sc (.int .i64 a)) (.sc (.int yk 32)) = some (.sc (.int .i64 (a / 4294967296))) := by
  rw [ev_shr (by omega)]
  have : ((2 : Int) ^ (min (32 : Int).toNat IntKind.i64.bits)) = 4294967296 := by decide
  rw [this, Int.fdiv_eq_ediv_of_nonneg _ (by omega)]
theorem ev_shl32i {yk : IntKind} {a : Int} : vbin P .shl t xo yo (.sc (.int .i64 a)) (.sc (.int yk 32)) = some (.sc (.int .i64 (IntKind.i64.wrap (a * 4294967296)))) := by
  rw [ev_shl (by omega)]
  have : ((2 : Int) ^ (min (32 : Int).toNat IntKind.i64.bits)) = 4294967296 := by decide
  rw [this]
end
attribute [go_sem] ev_shr32i ev_shl32i
theorem ok170 : codeOk 47 (Tryz.f170.body.getD .skip) = true := by kernel_rfl
theorem digs_pre : (l : List Nat) → (∀ d ∈ l, d < 10) → ∃ z, l = digs (dv l) ++ z
  | [], _ => ⟨[], by simp [dv, digs_zero]⟩
  | x :: r, h => by
    obtain ⟨z, hz⟩ := digs_pre r (fun d hd => h d (List.mem_cons_of_mem _ hd))
    have hx := h x (by simp)
    rcases Nat.eq_zero_or_pos (x + 10 * dv r) with e | e
    · refine ⟨x :: r, ?_⟩
      rw [show dv (x :: r) = x + 10 * dv r from rfl, e, digs_zero]
      rfl
    · refine ⟨z, ?_⟩
      rw [show dv (x :: r) = x + 10 * dv r from rfl, digs_pos e, show (x + 10 * dv r) % 10 = x by omega, show (x + 10 * dv r) / 10 = dv r by omega, List.cons_append, ← hz]
def OwnX (x : AV) (h : Heap) (n lo q : Nat) : Prop := (x = .nilS ∧ q = 0) ∨ ∃ b tl, x = .osl b 0 (digs q).length ∧ h b = some (.cells (i64s (digs q) ++ tl) 1 false) ∧ lo ≤ b ∧ b < n
def OwnU (x : AV) (h : Heap) (n : Nat) (o : List Int) : Prop := (x = .nilS ∧ o = []) ∨ ∃ b, x = .osl b 0 o.length ∧ h b = some (.cells (u32s o) 1 false) ∧ b < n
theorem u32s_l1 (o : List Int) : (u32s o).length = o.length * 1 := by simp [u32s]
theorem take_next {D : List Nat} {j x : Nat} (h : D[j]? = some x) : D.take (j + 1) = D.take j ++ [x] := by
  rw [List.take_add_one, h]
  rfl
theorem drop_next {D : List Nat} {j x : Nat} (h : D[j]? = some x) : D.drop j = x :: D.drop (j + 1) := by
  obtain ⟨hj, hx⟩ := List.getElem?_eq_some_iff.1 h
  rw [List.drop_eq_getElem_cons hj, hx]
theorem set_mid {D : List Nat} {j x y : Nat} (h : D[j]? = some x) (r : List AV) : List.take (j * 1) (i64s (D.take (j + 1)) ++ r) ++ [AV.sc (.int .i64 (y : Int))] ++ List.drop (j * 1 + 1) (i64s (D.take (j + 1)) ++ r) = i64s (D.take j) ++ AV.sc (.int .i64 (y : Int)) :: r := by
  obtain ⟨hj, hx⟩ := List.getElem?_eq_some_iff.1 h
  have hl : (i64s (D.take j)).length = j := by rw [i64s_len, List.length_take]; omega
  rw [take_next h, i64s_app, Nat.mul_one]
  have h1 : List.take j (i64s (D.take j) ++ i64s [x] ++ r) = i64s (D.take j) := by rw [List.append_assoc, List.take_left' hl]
  have h2 : List.drop (j + 1) (i64s (D.take j) ++ i64s [x] ++ r) = r := List.drop_left' (by rw [List.length_append, hl]; rfl)
  rw [h1, h2]
  simp
theorem get_mid {D : List Nat} {j x : Nat} (h : D[j]? = some x) (r : List AV) : (i64s (D.take (j + 1)) ++ r)[j * 1]? = some (.sc (.int .i64 (x : Int))) := by
  obtain ⟨hj, hx⟩ := List.getElem?_eq_some_iff.1 h
  have hl : (i64s (D.take j)).length = j := by rw [i64s_len, List.length_take]; omega
  rw [take_next h, i64s_app, List.append_assoc, Nat.mul_one, List.getElem?_append_right (by omega), hl]
  simp [i64s]
theorem get_at {D : List Nat} {j : Nat} (hj : j < D.length) (a : AV) (r : List AV) : (i64s (D.take j) ++ a :: r)[j * 1]? = some a := by
  have hl : (i64s (D.take j)).length = j := by rw [i64s_len, List.length_take]; omega
  rw [Nat.mul_one, List.getElem?_append_right (by omega), hl]
  simp
set_option maxHeartbeats 8000000 in
set_option maxRecDepth 100000 in
theorem pc170 (G : Nat → Option (List AV)) (m : Nat) (hm : (digs m).length ≤ 100000) : Pc (Cf G) 170 [.psl (i64s (digs m)) (digs m).length] (lsl m) := by
  have e1 := i64s_len1 (digs m)
  have e2 : (digs m).length * 8 ≤ 140737488355328 := by omega
  have e3 : (digs m).length ≤ 140737488355328 := by omega
  by_cases h0 : m = 0
  · subst h0
    rw [digs_zero]
    unfold lsl
    rw [lim_zero]
    refine Pc_of (Gf_enter (C := Cf G) Tryz.func170 rfl ok170 (Nat.le_of_ble_eq_true rfl) ?_)
    simp only [Tryz.f170, Option.getD_some]
    refine wB1 (@i64s.eq_1) ?_
    refine Gc_loop_inv (fun m st => st.T 3 = .nilS ∧ st.T 4 = .nilS) ?_ 0 _ ⟨rfl, rfl⟩
    rintro m ⟨T, hh, nn⟩ ⟨t3, t4⟩
    simp only at t3 t4
    refine wB1 (wa t3 t4) ?_
    simp only [one1, frz_n, Option.map_some]
    rfl
  · have e4 : ¬ (digs m).length = 0 := fun e => h0 (digs_nil.1 (List.eq_nil_of_length_eq_zero e))
    refine Pc_of (Gf_enter (C := Cf G) Tryz.func170 rfl ok170 (Nat.le_of_ble_eq_true rfl) ?_)
    simp only [Tryz.f170, Option.getD_some]
    refine wB1 (wa e1 (wa e2 (wa e3 e4))) ?_
    refine Gc_loop_inv (fun q st => q ≤ m ∧ ∃ o c, lim m = o ++ lim q ∧ OwnU (st.T 3) st.h c o ∧ ∃ b tl, st.T 4 = .osl b 0 (digs q).length ∧ st.h b = some (.cells (i64s (digs q) ++ tl) 1 false) ∧ c ≤ b ∧ b < st.n) ?_ m _ ⟨Nat.le_refl _, [], 0, rfl, .inl ⟨rfl, rfl⟩, 0, [], rfl, by simp [upd_ap], Nat.le_refl _, Nat.lt_succ_self _⟩
    rintro q ⟨T, hh, nn⟩ ⟨hqm, o, c, hlim, hu, b, tl, t4, hcb, hc, hb⟩
    simp only at hu t4 hcb hb
    by_cases hq0 : q = 0
    · subst hq0
      rw [digs_zero] at t4
      rw [lim_zero, List.append_nil] at hlim
      unfold lsl
      rw [hlim]
      rcases hu with ⟨t3, rfl⟩ | ⟨b3, t3, hb3, hc3⟩
      · refine wB1 (wa t3 t4) ?_
        simp only [one1, frz_n, Option.map_some]
        rfl
      · refine wB1 (wa t3 t4) ?_
        simp only [one1]
        rw [frz_w hb3 (u32s_l1 o) (u32s_pur o)]
        rfl
    · have hD := digs_lt q
      have hDl : (digs q).length ≤ 100000 := Nat.le_trans (digs_len_mono q m hqm) hm
      have hne : digs q ≠ [] := fun e => hq0 (digs_nil.1 e)
      have hdv := dv_digs q
      generalize hDq : digs q = D at *
      have q1 : (0 : Int) < (D.length : Int) := by
        have := List.length_pos_iff.2 hne
        omega
      have w1 : IntKind.i64.wrap ((D.length : Int) - 1) = (D.length : Int) - 1 := i64 (by omega) (by omega)
      refine wB1 (wa t4 (wa q1 w1)) ?_
      refine Gc_loop_inv (fun k st => k ≤ D.length ∧ st.T 3 = T 3 ∧ st.T 4 = .osl b 0 D.length ∧ st.T 5 = .sc (.int .i64 ((ld (D.drop k)).2 : Nat)) ∧ st.T 6 = .sc (.int .i64 ((k : Int) - 1)) ∧ st.h b = some (.cells (i64s (D.take k) ++ (i64s (ld (D.drop k)).1 ++ tl)) 1 false) ∧ (∀ j, j ≠ b → st.h j = hh j) ∧ st.n = nn) ?_ D.length _ ⟨Nat.le_refl _, rfl, t4, by rw [List.drop_length]; rfl, rfl, by rw [List.drop_length, List.take_length]; exact hcb, fun _ _ => rfl, rfl⟩
      rintro k ⟨T2, h2, n2⟩ ⟨hk, s3, s4, s5, s6, hcell, hfr, e5⟩
      simp only at s3 s4 s5 s6 hcell hfr e5
      subst e5
      have hrest := ld_rest (D.drop k)
      cases k with
      | zero =>
        rw [List.drop_zero] at hrest hcell s5
        rw [List.take_zero] at hcell
        have q2 : ¬ (0 : Int) ≤ ((0 : Nat) : Int) - 1 := by omega
        have hQ := ld_len D
        have hQd := ld_quo D
        have hQ10 := ld_lt D hD
        rw [hdv] at hQd hrest
        obtain ⟨z, hz⟩ := digs_pre _ hQ10
        rw [hQd] at hz
        have w2 : IntKind.u32.wrap (((ld D).2 : Nat) : Int) = ((q % 4294967296 : Nat) : Int) := by rw [hrest]; exact IntWalk.u32_in _ (by omega)
        rw [← hQ] at s4
        have hQne : (ld D).1 ≠ [] := by
          intro e
          rw [e] at hQ
          exact hne (List.eq_nil_of_length_eq_zero hQ.symm)
        have hQl : (ld D).1.length ≤ 100000 := by omega
        have hlq : lim m = (o ++ [((q % 4294967296 : Nat) : Int)]) ++ lim (q / 4294967296) := by rw [hlim, lim_pos (by omega)]; simp
        have hbn : ¬ b = n2 := by omega
        have hbn1 : ¬ b = n2 + 1 := by omega
        generalize (ld D).1 = Q at *
        simp only [i64s, List.map_nil, List.nil_append] at hcell
        have hcs : ∀ i : Nat, i < Q.length → (i64s Q ++ tl)[i * 1]? = (i64s Q)[i * 1]? := fun i hi => List.getElem?_append_left (by rw [i64s_len]; omega)
        rcases hu with ⟨t3, rfl⟩ | ⟨b3, t3, hb3, hc3⟩
        · rw [t3] at s3
          repeat' first | refine w_op rfl rfl ?_ | refine x_p rfl ?_ | refine w_sr ?_ | refine st_nil ?_ | refine w_seq ?_ | refine st_region ?_ | refine st_block ?_ | refine w_cond ?_ | refine b_t ?_ | refine b_f ?_ | refine st_skip ?_ | refine st_exit ?_ | refine st_ret ?_ | refine st_onNormN ?_ | refine st_onNormE ?_ | refine st_onNormR ?_ | refine st_onExitN ?_ | refine st_onExitR ?_ | refine st_onExitS ?_ | refine st_onExitO (by decide) ?_ | refine g_t ?_ | refine g_f rfl ?_ | refine o_op rfl ?_ | refine w_wr ?_ | refine w_wn ?_ | refine d_c rfl ?_ | refine d_on rfl ?_ | refine d_op rfl ?_ | refine d_y ?_ | refine d_gd rfl ?_ | refine d_t ?_ | refine d_f ?_ | refine d_nil ?_ | refine w_dr rfl ?_ | refine d_q ?_ | refine n_0 rfl ?_ | refine d_n ?_ | refine k_o rfl rfl rfl ?_ | refine w_gd rfl ?_ | ((first | refine zE1 ?_ | refine w_cl rfl rfl ?_ | refine o_cl rfl ?_ | refine d_cl rfl ?_); (conv => arg 1; try simp only [go_sem, Nat.reduceEqDiff, reduceIte, Nat.reduceAdd, Nat.reduceLeDiff, Nat.reduceMul, Int.reduceEq, Int.reduceLT, Int.reduceLE, Int.reduceNeg, Int.reduceAdd, Int.reduceSub, Nat.reduceLT, Nat.reduceBEq, Nat.reduceSub, Nat.reducePow, s3, s4, s5, s6, q2, w2, rep]); first | refine zE3 ?_ | refine zE2 ?_ | refine zE4 ?_ | refine zE5 ?_ | refine zE6 ?_ | refine zE7 ?_ | refine zE8 ?_) | (refine w_u false ?_; (conv => arg 1; reduce); refine zR1 ?_) | (refine b_s (fun hb => ?_) (fun hb => ?_) <;> ((try simp only [hn1, hn2, hn3, hn4] at hb); first | (exfalso; omega) | skip)) | (first | refine g_s (fun hb => ?_) (fun hb => ?_) | refine d_s (fun hb => ?_) (fun hb => ?_)) <;> ((try simp only [hn1, hn2] at hb); rw [hb]; try simp only [hn3, hn4] at hb)
          refine k_w rfl rfl ?_
          refine gf168 G Q hQl hQ10 hQne (cs := i64s Q ++ tl) (by simp only [upd_ap, if_neg hbn, if_neg hbn1]; exact hcell) hcs (by simp [i64s]) (by omega) _ ?_
          intro b1 h1 n1 hb1 hb2 hc1 hf1
          refine n_1 (by omega) rfl ?_
          refine wB1 trivial ?_
          refine ⟨q / 4294967296, by omega, by omega, [((q % 4294967296 : Nat) : Int)], n2 + 2, hlq, .inr ⟨n2 + 1, by simp [upd_ap], ?_, by omega⟩, b1, i64s z, by simp [upd_ap, hQd], ?_, hb1, hb2⟩
          · show h1 (n2 + 1) = _
            rw [hf1 (n2 + 1) (by omega)]
            simp [upd_ap, u32s]
          · show h1 b1 = _
            rw [hc1, ← i64s_app, ← hz]
        · rw [t3] at s3
          have hol : o.length ≤ 100000 := by
            have := lim_digs hm
            rw [hlim, List.length_append] at this
            omega
          have hbb : ¬ b3 = b := by omega
          have hbb' : ¬ b = b3 := by omega
          have p3 : h2 b3 = some (.cells (u32s o) 1 false) := by rw [hfr b3 hbb]; exact hb3
          have a1 : ¬ b3 = n2 := by omega
          have a2 : ¬ n2 = b3 := by omega
          have g1 : (o.length + 1) * 4 ≤ 140737488355328 := by omega
          have g2 : o.length + 1 ≤ 140737488355328 := by omega
          have g3 : o.length * 1 ≤ (u32s o).length := by rw [u32s_len]; omega
          have g4 : cut (u32s o) 0 (o.length * 1) ++ [AV.sc (.int .u32 ((q % 4294967296 : Nat) : Int))] = u32s (o ++ [((q % 4294967296 : Nat) : Int)]) := by
            rw [cut, List.drop_zero, Nat.mul_one, List.take_of_length_le (by rw [u32s_len]; omega)]
            simp [u32s]
          repeat' first | refine w_op rfl rfl ?_ | refine x_p rfl ?_ | refine w_sr ?_ | refine st_nil ?_ | refine w_seq ?_ | refine st_region ?_ | refine st_block ?_ | refine w_cond ?_ | refine b_t ?_ | refine b_f ?_ | refine st_skip ?_ | refine st_exit ?_ | refine st_ret ?_ | refine st_onNormN ?_ | refine st_onNormE ?_ | refine st_onNormR ?_ | refine st_onExitN ?_ | refine st_onExitR ?_ | refine st_onExitS ?_ | refine st_onExitO (by decide) ?_ | refine g_t ?_ | refine g_f rfl ?_ | refine o_op rfl ?_ | refine w_wr ?_ | refine w_wn ?_ | refine d_c rfl ?_ | refine d_on rfl ?_ | refine d_op rfl ?_ | refine d_y ?_ | refine d_gd rfl ?_ | refine d_t ?_ | refine d_f ?_ | refine d_nil ?_ | refine w_dr rfl ?_ | refine d_q ?_ | refine n_0 rfl ?_ | refine d_n ?_ | refine k_o rfl rfl rfl ?_ | refine w_gd rfl ?_ | ((first | refine zE1 ?_ | refine w_cl rfl rfl ?_ | refine o_cl rfl ?_ | refine d_cl rfl ?_); (conv => arg 1; try simp only [go_sem, Nat.reduceEqDiff, reduceIte, Nat.reduceAdd, Nat.reduceLeDiff, Nat.reduceMul, Int.reduceEq, Int.reduceLT, Int.reduceLE, Int.reduceNeg, Int.reduceAdd, Int.reduceSub, Nat.reduceLT, Nat.reduceBEq, Nat.reduceSub, Nat.reducePow, s3, s4, s5, s6, q2, w2, rep, p3, a1, a2, g1, g2, g3, g4]); first | refine zE3 ?_ | refine zE2 ?_ | refine zE4 ?_ | refine zE5 ?_ | refine zE6 ?_ | refine zE7 ?_ | refine zE8 ?_) | (refine w_u false ?_; (conv => arg 1; reduce); refine zR1 ?_) | (refine b_s (fun hb => ?_) (fun hb => ?_) <;> ((try simp only [hn1, hn2, hn3, hn4] at hb); first | (exfalso; omega) | skip)) | (first | refine g_s (fun hb => ?_) (fun hb => ?_) | refine d_s (fun hb => ?_) (fun hb => ?_)) <;> ((try simp only [hn1, hn2] at hb); rw [hb]; try simp only [hn3, hn4] at hb)
          refine k_w rfl rfl ?_
          refine gf168 G Q hQl hQ10 hQne (cs := i64s Q ++ tl) (by simp only [upd_ap, if_neg hbn, if_neg hbn1, if_neg hbb']; exact hcell) hcs (by simp [i64s]) (by omega) _ ?_
          intro b1 h1 n1 hb1 hb2 hc1 hf1
          refine n_1 (by omega) rfl ?_
          refine wB1 trivial ?_
          refine ⟨q / 4294967296, by omega, by omega, o ++ [((q % 4294967296 : Nat) : Int)], n2 + 2, hlq, .inr ⟨n2 + 1, by simp [upd_ap], ?_, by omega⟩, b1, i64s z, by simp [upd_ap, hQd], ?_, hb1, hb2⟩
          · show h1 (n2 + 1) = _
            rw [hf1 (n2 + 1) (by omega)]
            simp [upd_ap]
          · show h1 b1 = _
            rw [hc1, ← i64s_app, ← hz]
      | succ j =>
        obtain ⟨x, hx⟩ : ∃ x, D[j]? = some x := ⟨D[j], List.getElem?_eq_getElem (by omega)⟩
        have hx10 := hD x (List.mem_of_getElem? hx)
        have hrest1 := ld_rest (D.drop (j + 1))
        have hdrop := drop_next hx
        have hdl : ld (D.drop j) = (((ld (D.drop (j + 1))).2 * 10 + x) / 4294967296 :: (ld (D.drop (j + 1))).1, ((ld (D.drop (j + 1))).2 * 10 + x) % 4294967296) := by rw [hdrop]; rfl
        have hset := fun y => set_mid (y := y) hx (i64s (ld (D.drop (j + 1))).1 ++ tl)
        have hget := get_mid hx (i64s (ld (D.drop (j + 1))).1 ++ tl)
        have hat := fun a => get_at (j := j) (D := D) (by omega) a (i64s (ld (D.drop (j + 1))).1 ++ tl)
        have hlen : j * 1 + 1 ≤ (i64s (D.take (j + 1)) ++ (i64s (ld (D.drop (j + 1))).1 ++ tl)).length := by
          rw [List.length_append, i64s_len, List.length_take]
          omega
        have hR : (ld (D.drop (j + 1))).2 < 4294967296 := by omega
        generalize i64s (D.take (j + 1)) ++ (i64s (ld (D.drop (j + 1))).1 ++ tl) = cs at *
        generalize (ld (D.drop (j + 1))).1 = Qs at *
        generalize (ld (D.drop (j + 1))).2 = R at *
        have q2 : (0 : Int) ≤ ((j + 1 : Nat) : Int) - 1 := by omega
        have q3 : ((j + 1 : Nat) : Int) - 1 = (j : Int) := by omega
        have q4 : (0 : Int) ≤ (j : Int) := by omega
        rw [q3] at s6
        have hjl : j < D.length := by omega
        have w2 : IntKind.i64.wrap ((R : Int) * 10) = (R : Int) * 10 := i64 (by omega) (by omega)
        have w3 : IntKind.i64.wrap ((R : Int) * 10 + (x : Int)) = ((R * 10 + x : Nat) : Int) := by rw [i64 (by omega) (by omega)]; omega
        have w4 : ((R * 10 + x : Nat) : Int) / 4294967296 = (((R * 10 + x) / 4294967296 : Nat) : Int) := by omega
        have w5 : IntKind.i64.wrap ((((R * 10 + x) / 4294967296 : Nat) : Int) * 4294967296) = (((R * 10 + x) / 4294967296 : Nat) : Int) * 4294967296 := i64 (by omega) (by omega)
        have w6 : IntKind.i64.wrap (((R * 10 + x : Nat) : Int) - (((R * 10 + x) / 4294967296 : Nat) : Int) * 4294967296) = (((R * 10 + x) % 4294967296 : Nat) : Int) := by rw [i64 (by omega) (by omega)]; omega
        have w7 : IntKind.i64.wrap ((j : Int) - 1) = (j : Int) - 1 := i64 (by omega) (by omega)
        have hs := hset ((R * 10 + x) / 4294967296)
        have ha := hat (.sc (.int .i64 (((R * 10 + x) / 4294967296 : Nat) : Int)))
        generalize (R * 10 + x) / 4294967296 = y at *
        generalize (R * 10 + x) % 4294967296 = z at *
        generalize R * 10 + x = N at *
        refine wB1 (wa s3 (wa s4 (wa s5 (wa s6 (wa q4 (wa hjl (wa hget (wa hlen (wa hcell (wa hs (wa ha (wa w2 (wa w3 (wa w4 (wa w5 (wa w6 w7)))))))))))))))) ?_
        refine ⟨j, by omega, by omega, by simp [upd_ap, s3], by simp [upd_ap, s4], ?_, by simp [upd_ap], ?_, ?_, rfl⟩
        · rw [hdl]
          simp [upd_ap]
        · rw [hdl]
          simp [upd_ap, i64s]
        · intro i hi
          simp [upd_ap, hi, hfr i hi]
end Go.Proofs.Bv
namespace Go.Proofs.Bv
open Go
theorem ok109 : codeOk 44 (Tryz.f109.body.getD .skip) = true := by kernel_rfl
theorem ok57 : codeOk 26 (Tryz.f57.body.getD .skip) = true := by kernel_rfl
theorem ok19 : codeOk 6 (Tryz.f19.body.getD .skip) = true := by kernel_rfl
theorem digs_last (n : Nat) : ∀ x, (digs n).getLast? = some x → x ≠ 0 := by
  induction n using Nat.strongRecOn with
  | ind n ih =>
    rcases Nat.eq_zero_or_pos n with rfl | h0
    · rw [digs_zero]; exact fun _ h => by simp at h
    · rw [digs_pos h0]
      intro x hx
      cases hq : digs (n / 10) with
      | nil =>
        rw [hq] at hx
        have := digs_nil.1 hq
        simp at hx
        omega
      | cons y r =>
        have := ih (n / 10) (by omega)
        rw [hq] at this hx
        exact this x (by simpa [List.getLast?_cons_cons] using hx)
set_option maxHeartbeats 4000000 in
set_option maxRecDepth 100000 in
theorem gf169p (G : Nat → Option (List AV)) (m : Nat) (hl : (digs m).length ≤ 100000) {h : Heap} {n : Nat} (Q : AV → Heap → Nat → Prop)
    (hq : Q (.psl (i64s (digs m)) (digs m).length) h n) : Gf (Cf G) 169 [.psl (i64s (digs m)) (digs m).length] h n Q := by
  have hD := digs_lt m
  have hdv := dv_digs m
  have hlast : ∀ x, (digs m).getLast? = some x → x ≠ 0 := digs_last m
  generalize digs m = l at *
  refine Gf_enter (C := Cf G) Tryz.func169 rfl ok169 (Nat.le_of_ble_eq_true rfl) ?_
  simp only [Tryz.f169, Option.getD_some]
  refine wB1 trivial ?_
  refine Gc_loop_inv (fun _ st => st.T 0 = .psl (i64s l) l.length ∧ st.T 3 = .sc (.int .i64 l.length) ∧ st.h = h ∧ st.n = n) ?_ 0 _ ⟨rfl, rfl, rfl, rfl⟩
  rintro _ ⟨T, hh, nn⟩ ⟨t0, t3, e1, e2⟩
  simp only at t0 t3 e1 e2
  subst e1
  subst e2
  have b1 := bnds_hi (Nat.le_refl l.length)
  have g1 : cut (i64s l) (0 * 1) (l.length * 1) = i64s l := by rw [Nat.zero_mul, cut, List.drop_zero, Nat.mul_one, List.take_of_length_le (by rw [i64s_len]; omega)]
  by_cases h0 : l = []
  · subst h0
    have q1 : ¬ (0 : Int) < ((0 : Nat) : Int) := by omega
    refine wB1 (wa t0 (wa t3 (wa q1 (@i64s.eq_1)))) ?_
    exact hq
  · obtain ⟨k, hk⟩ : ∃ k, l.length = k + 1 := ⟨l.length - 1, by have := List.length_pos_iff.2 h0; omega⟩
    obtain ⟨x, hx⟩ : ∃ x, l[k]? = some x := ⟨l[k], List.getElem?_eq_getElem (by omega)⟩
    have hxl := hlast x (by rw [List.getLast?_eq_getElem?, hk]; exact hx)
    have hx' : (i64s l)[k * 1]? = some (.sc (.int .i64 (x : Int))) := by simp [i64s, hx]
    have q1 : (0 : Int) < (l.length : Int) := by omega
    have wk : IntKind.i64.wrap ((l.length : Int) - 1) = (k : Int) := by rw [i64 (by omega) (by omega)]; omega
    have q2 : ¬ (x : Int) = 0 := by omega
    have hk' : k < l.length := by omega
    have hs : l.length - 0 = l.length := rfl
    refine wB1 (wa t0 (wa t3 (wa q1 (wa wk (wa hk' (wa hx' (wa q2 (wa b1 (wa g1 hs))))))))) ?_
    exact hq
set_option maxHeartbeats 8000000 in
set_option maxRecDepth 100000 in
theorem pc109 (G : Nat → Option (List AV)) (ng : Bool) (m : Nat) (ex : Int) (hm : (digs m).length ≤ 100000) (hx : -1000000 ≤ ex ∧ ex ≤ 1000000) :
    Pc (Cf G) 109 [.agg [.sc (.bool ng), .psl (i64s (digs m)) (digs m).length, .sc (.int .i64 ex)]] (encR (settleD ng m ex)) := by
  by_cases h0 : m = 0
  · subst h0
    simp only [settleD, if_true, encR, encD]
    have h169 : ∀ h n Q, Q (.psl [] 0) h n → Gf (Cf G) 169 [.psl [] 0] h n Q := fun h n Q hq => by
      have := gf169p G 0 (by rw [digs_zero]; exact Nat.zero_le _) (h := h) (n := n) Q (by rw [digs_zero]; exact hq)
      rw [digs_zero] at this
      exact this
    rw [digs_zero, lim_zero]
    simp only [i64s, List.map_nil, List.length_nil]
    refine Pc_of (Gf_enter (C := Cf G) Tryz.func109 rfl ok109 (Nat.le_of_ble_eq_true rfl) ?_)
    simp only [Tryz.f109, Option.getD_some]
    repeat' first | refine w_op rfl rfl ?_ | refine x_p rfl ?_ | refine w_sr ?_ | refine st_nil ?_ | refine w_seq ?_ | refine st_region ?_ | refine st_block ?_ | refine w_cond ?_ | refine b_t ?_ | refine b_f ?_ | refine st_skip ?_ | refine st_exit ?_ | refine st_ret ?_ | refine st_onNormN ?_ | refine st_onNormE ?_ | refine st_onNormR ?_ | refine st_onExitN ?_ | refine st_onExitR ?_ | refine st_onExitS ?_ | refine st_onExitO (by decide) ?_ | refine g_t ?_ | refine g_f rfl ?_ | refine o_op rfl ?_ | refine w_wr ?_ | refine w_wn ?_ | refine d_c rfl ?_ | refine d_on rfl ?_ | refine d_op rfl ?_ | refine d_y ?_ | refine d_gd rfl ?_ | refine d_t ?_ | refine d_f ?_ | refine d_nil ?_ | refine w_dr rfl ?_ | refine d_q ?_ | refine n_0 rfl ?_ | refine d_n ?_ | refine k_o rfl rfl rfl ?_ | refine w_gd rfl ?_ | ((first | refine zE1 ?_ | refine w_cl rfl rfl ?_ | refine o_cl rfl ?_ | refine d_cl rfl ?_); (conv => arg 1; try simp only [go_sem, Nat.reduceEqDiff, reduceIte, Nat.reduceAdd, Nat.reduceLeDiff, Nat.reduceMul, Int.reduceEq, Int.reduceLT, Int.reduceLE, Int.reduceNeg, Int.reduceAdd, Int.reduceSub, Nat.reduceLT, Nat.reduceBEq, Nat.reduceSub, Nat.reducePow]); first | refine zE3 ?_ | refine zE2 ?_ | refine zE4 ?_ | refine zE5 ?_ | refine zE6 ?_ | refine zE7 ?_ | refine zE8 ?_) | (refine w_u false ?_; (conv => arg 1; reduce); refine zR1 ?_) | (refine b_s (fun hb => ?_) (fun hb => ?_) <;> ((try simp only [hn1, hn2, hn3, hn4] at hb); first | (exfalso; omega) | skip)) | (first | refine g_s (fun hb => ?_) (fun hb => ?_) | refine d_s (fun hb => ?_) (fun hb => ?_)) <;> ((try simp only [hn1, hn2] at hb); rw [hb]; try simp only [hn3, hn4] at hb)
    refine k_w rfl rfl (h169 _ _ _ ?_)
    refine n_1 (Nat.le_refl _) rfl ?_
    refine wB1 trivial ?_
    simp only [one1, frz_t, frz_a, mapF, frz_s, frz_n, Option.map_some, List.append_nil]
    rfl
  · obtain ⟨s1, s2, s3⟩ := strip_digs m
    obtain ⟨p1, p2⟩ := strip_ne (Nat.pos_of_ne_zero h0)
    have q1 : ¬ ((digs m).length : Int) = 0 := fun e => h0 (digs_nil.1 (List.eq_nil_of_length_eq_zero (by omega)))
    have h170 := pc170 G (stripN m) (by omega)
    unfold lsl at h170
    refine Pc_of (Gf_enter (C := Cf G) Tryz.func109 rfl ok109 (Nat.le_of_ble_eq_true rfl) ?_)
    simp only [Tryz.f109, Option.getD_some]
    repeat' first | refine w_op rfl rfl ?_ | refine x_p rfl ?_ | refine w_sr ?_ | refine st_nil ?_ | refine w_seq ?_ | refine st_region ?_ | refine st_block ?_ | refine w_cond ?_ | refine b_t ?_ | refine b_f ?_ | refine st_skip ?_ | refine st_exit ?_ | refine st_ret ?_ | refine st_onNormN ?_ | refine st_onNormE ?_ | refine st_onNormR ?_ | refine st_onExitN ?_ | refine st_onExitR ?_ | refine st_onExitS ?_ | refine st_onExitO (by decide) ?_ | refine g_t ?_ | refine g_f rfl ?_ | refine o_op rfl ?_ | refine w_wr ?_ | refine w_wn ?_ | refine d_c rfl ?_ | refine d_on rfl ?_ | refine d_op rfl ?_ | refine d_y ?_ | refine d_gd rfl ?_ | refine d_t ?_ | refine d_f ?_ | refine d_nil ?_ | refine w_dr rfl ?_ | refine d_q ?_ | refine n_0 rfl ?_ | refine d_n ?_ | refine k_o rfl rfl rfl ?_ | refine w_gd rfl ?_ | ((first | refine zE1 ?_ | refine w_cl rfl rfl ?_ | refine o_cl rfl ?_ | refine d_cl rfl ?_); (conv => arg 1; try simp only [go_sem, Nat.reduceEqDiff, reduceIte, Nat.reduceAdd, Nat.reduceLeDiff, Nat.reduceMul, Int.reduceEq, Int.reduceLT, Int.reduceLE, Int.reduceNeg, Int.reduceAdd, Int.reduceSub, Nat.reduceLT, Nat.reduceBEq, Nat.reduceSub, Nat.reducePow]); first | refine zE3 ?_ | refine zE2 ?_ | refine zE4 ?_ | refine zE5 ?_ | refine zE6 ?_ | refine zE7 ?_ | refine zE8 ?_) | (refine w_u false ?_; (conv => arg 1; reduce); refine zR1 ?_) | (refine b_s (fun hb => ?_) (fun hb => ?_) <;> ((try simp only [hn1, hn2, hn3, hn4] at hb); first | (exfalso; omega) | skip)) | (first | refine g_s (fun hb => ?_) (fun hb => ?_) | refine d_s (fun hb => ?_) (fun hb => ?_)) <;> ((try simp only [hn1, hn2] at hb); rw [hb]; try simp only [hn3, hn4] at hb)
    refine k_w rfl rfl (gf169p G m hm _ ?_)
    refine n_1 (Nat.le_refl _) rfl ?_
    refine wB1 q1 ?_
    refine Gc_loop_inv (fun q st => ∃ c, 0 < q ∧ stripN q = stripN m ∧ tzN m = c + tzN q ∧ (digs q).length ≤ 100000 ∧ c ≤ 100000 ∧ st.T 1 = .ptr 0 0 ∧ st.T 2 = .ptr 1 0 ∧ st.T 3 = .sc (.int .i64 0) ∧ st.T 4 = .psl (i64s (digs q)) (digs q).length ∧ 2 ≤ st.n ∧
      (∃ D, st.h 0 = some (.cells [.sc (.bool ng), D, .sc (.int .i64 (ex + (c : Int)))] 0 false)) ∧ st.h 1 = some (.cells [.sc (.bool false), .nilS, .sc (.int .i64 0)] 0 false)) ?_ m _ ⟨0, by omega, rfl, by simp, hm, by omega, rfl, rfl, rfl, rfl, by simp, ⟨.psl (i64s (digs m)) (digs m).length, by simp [upd_ap]⟩, by simp [upd_ap]⟩
    rintro q ⟨T, hh, nn⟩ ⟨c, hq, u1, u2, hql, hcl, t1, t2, t3, t4, hn2, ⟨D, b0⟩, b1⟩
    simp only at t1 t2 t3 t4 hn2 b0 b1
    rw [digs_pos hq] at t4 hql
    simp only [List.length_cons] at t4 hql
    have x1 : i64s (q % 10 :: digs (q / 10)) = AV.sc (.int .i64 ((q % 10 : Nat) : Int)) :: i64s (digs (q / 10)) := rfl
    rw [x1] at t4
    generalize hy : q % 10 = y at *
    by_cases hy0 : y = 0
    · subst hy0
      obtain ⟨v1, v2⟩ := strip_zero hq hy
      have g1 : bnds ((digs (q / 10)).length + 1) (some (.sc (.int .i64 1))) none = some (1, (digs (q / 10)).length + 1) := bnds_lo (k := 1) (by omega)
      have g2 : cut (AV.sc (.int .i64 ((0 : Nat) : Int)) :: i64s (digs (q / 10))) (1 * 1) (((digs (q / 10)).length + 1 - 1) * 1) = i64s (digs (q / 10)) := by
        rw [Nat.add_sub_cancel, Nat.mul_one, Nat.mul_one]
        simp only [cut, List.drop_succ_cons, List.drop_zero]
        rw [List.take_of_length_le (by rw [i64s_len]; omega)]
      have w1 : IntKind.i64.wrap (ex + (c : Int) + 1) = ex + ((c + 1 : Nat) : Int) := by rw [i64 (by omega) (by omega)]; omega
      refine wB1 (wa t1 (wa t2 (wa t3 (wa t4 (wa b0 (wa b1 (wa g1 (wa g2 (wa w1 @Nat.add_sub_cancel))))))))) ?_
      have g3 : cut (i64s (digs (q / 10))) 0 ((digs (q / 10)).length * 1) = i64s (digs (q / 10)) := by rw [cut, List.drop_zero, Nat.mul_one, List.take_of_length_le (by rw [i64s_len]; omega)]
      refine ⟨q / 10, by omega, c + 1, by omega, by rw [← u1, v1], by rw [u2, v2]; omega, by omega, ?_, by simp [upd_ap, t1], by simp [upd_ap, t2], by simp [upd_ap, t3], by simp only [upd_ap, Nat.reduceEqDiff, if_true, if_false, g3], hn2, ⟨D, by simp [upd_ap]⟩, by simp [upd_ap, b1]⟩
      have := tz_le m
      omega
    · have q2 : ¬ (y : Int) = 0 := by omega
      obtain ⟨v1, v2⟩ := strip_pos hq (by omega)
      rw [v1] at u1
      rw [v2] at u2
      have hdq : digs (stripN m) = y :: digs (q / 10) := by rw [← u1, digs_pos hq, hy]
      have hlq : (digs (stripN m)).length = (digs (q / 10)).length + 1 := by rw [hdq]; rfl
      rw [← u1, digs_pos hq, hy, x1, List.length_cons] at h170
      have htz : (tzN m : Int) = c := by omega
      unfold settleD
      rw [if_neg h0, hlq, htz]
      have q3 : ((300 : Int) < (((digs (q / 10)).length + 1 : Nat) : Int)) = (300 < (digs (q / 10)).length + 1) := by simp; omega
      by_cases c1 : 300 < (digs (q / 10)).length + 1
      · rw [if_pos c1]
        have q4 : (300 : Int) < (((digs (q / 10)).length + 1 : Nat) : Int) := by omega
        refine wB1 (wa t1 (wa t2 (wa t3 (wa t4 (wa b0 (wa b1 (wa q2 q4))))))) ?_
        simp only [one1, frz_t, frz_a, mapF, frz_s, frz_n, Option.map_some, List.append_nil, encR, encD, lim_zero]
        rfl
      · rw [if_neg c1]
        have q4 : ¬ (300 : Int) < (((digs (q / 10)).length + 1 : Nat) : Int) := by omega
        by_cases c2 : ex + (c : Int) < -1000
        · rw [if_pos (.inl c2)]
          refine wB1 (wa t1 (wa t2 (wa t3 (wa t4 (wa b0 (wa b1 (wa q2 (wa q4 c2)))))))) ?_
          simp only [one1, frz_t, frz_a, mapF, frz_s, frz_n, Option.map_some, List.append_nil, encR, encD, lim_zero]
          rfl
        · by_cases c3 : 1000 < ex + (c : Int)
          · rw [if_pos (.inr c3)]
            refine wB1 (wa t1 (wa t2 (wa t3 (wa t4 (wa b0 (wa b1 (wa q2 (wa q4 (wa c2 @c3))))))))) ?_
            simp only [one1, frz_t, frz_a, mapF, frz_s, frz_n, Option.map_some, List.append_nil, encR, encD, lim_zero]
            rfl
          · rw [if_neg (by omega)]
            refine gC1 (wa t1 (wa t2 (wa t3 (wa t4 (wa b0 (wa b1 (wa q2 (wa q4 (wa c2 @c3))))))))) (wa h170 trivial) ?_
            simp only [one1, frz_t, frz_a, mapF, frz_s, frz_l, Option.map_some, List.append_nil, encR, encD, ← u1]
set_option maxHeartbeats 4000000 in
set_option maxRecDepth 100000 in
theorem pc57 (G : Nat → Option (List AV)) (n : Nat) (h : n ≤ 4294967295) : Pc (Cf G) 57 [.sc (.int .i64 n)] (.agg (encD (intD n).1 (intD n).2.1 (intD n).2.2)) := by
  have h1 := pc107 G n h
  have hd := digs_small (n := n) (by omega)
  have h2 := pc109 G false n 0 (by omega) (by omega)
  rw [settle_int (by omega)] at h2
  have w1 : IntKind.u64.wrap (n : Int) = n := IntWalk.u64_in _ (by omega)
  have q1 : ¬ (n : Int) < 0 := by omega
  unfold encR encD at h2
  simp only at h2
  unfold encD
  refine Pc_of (Gf_enter (C := Cf G) Tryz.func57 rfl ok57 (Nat.le_of_ble_eq_true rfl) ?_)
  simp only [Tryz.f57, Option.getD_some]
  refine wC1 (wa w1 q1) (wa h1 (wa h2 trivial)) ?_
  simp only [one1, frz_a, mapF, frz_s, frz_l, Option.map_some, List.append_nil]
set_option maxHeartbeats 4000000 in
set_option maxRecDepth 100000 in
theorem pc19 (G : Nat → Option (List AV)) (n : Nat) (h : n ≤ 4294967295) : Pc (Cf G) 19 [.sc (.int .i64 n)] (.agg (enc (numV n))) := by
  have h1 := pc57 G n h
  unfold encD at h1
  unfold numV
  simp only [enc]
  refine Pc_of (Gf_enter (C := Cf G) Tryz.func19 rfl ok19 (Nat.le_of_ble_eq_true rfl) ?_)
  simp only [Tryz.f19, Option.getD_some]
  refine wC1 trivial (wa h1 trivial) ?_
  simp only [one1, frz_a, mapF, frz_s, frz_l, frz_n, Option.map_some, List.append_nil]
  rfl
end Go.Proofs.Bv
