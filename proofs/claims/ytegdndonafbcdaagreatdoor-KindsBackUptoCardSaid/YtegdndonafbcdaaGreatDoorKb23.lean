/-
  A part of the proof of KindsBackUptoCardSaid: BkEntries, BkBackLaw, BkFirst.
  Conditions: those that each part names.
-/
import Derived.Test.YtegdndonafbcdaaGreatDoorKb22
set_option linter.unusedSimpArgs false
set_option linter.unusedVariables false
namespace Go.Proofs.Bv
open Go
theorem ok21 : codeOk 47 (Tryz.f21.body.getD .skip) = true := by kernel_rfl
def keyB : ByteArray := ⟨#[107, 101, 121]⟩
def valueB : ByteArray := ⟨#[118, 97, 108, 117, 101]⟩
def entV (p : ByteArray × JV) : JV := .mk 6 false [] 0 ⟨#[]⟩ [textV p.1, p.2] [keyB, valueB]
def entC (b : Nat) : List AV := [.sc (.int .i64 6), .sc (.bool false), .nilS, .sc (.int .i64 0), .sc (.string ⟨#[]⟩), .osl (b + 1) 0 2, .osl b 0 2]
structure EntB (h : Heap) (b : Nat) (p : ByteArray × JV) : Prop where
  ks : h b = some (.cells [.sc (.string keyB), .sc (.string valueB)] 1 false)
  vs : h (b + 1) = some (.cells (enc (textV p.1) ++ enc p.2) 7 false)
def Ents (h : Heap) (lo n : Nat) : List Nat → List (ByteArray × JV) → Prop
  | [], [] => True
  | b :: bs, p :: ps => EntB h b p ∧ (lo ≤ b ∧ b + 1 < n) ∧ Ents h lo n bs ps
  | _, _ => False
theorem Ents.len {h : Heap} {lo n : Nat} : {bs : List Nat} → {ps : List (ByteArray × JV)} → Ents h lo n bs ps → bs.length = ps.length
  | [], [], _ => rfl
  | _ :: _, _ :: _, e => by simp [Ents.len e.2.2]
  | [], _ :: _, e => by simp [Ents] at e
  | _ :: _, [], e => by simp [Ents] at e
theorem Ents.mem {h : Heap} {lo n : Nat} : {bs : List Nat} → {ps : List (ByteArray × JV)} → Ents h lo n bs ps → ∀ b ∈ bs, lo ≤ b ∧ b + 1 < n
  | [], [], _ => by simp
  | _ :: _, _ :: _, e => by
    intro b hb
    rcases List.mem_cons.1 hb with rfl | hb
    · exact e.2.1
    · exact Ents.mem e.2.2 b hb
  | [], _ :: _, e => by simp [Ents] at e
  | _ :: _, [], e => by simp [Ents] at e
theorem Ents.mono {h h' : Heap} {lo n n' : Nat} (hn : n ≤ n') : {bs : List Nat} → {ps : List (ByteArray × JV)} → Ents h lo n bs ps → (∀ b ∈ bs, h' b = h b ∧ h' (b + 1) = h (b + 1)) → Ents h' lo n' bs ps
  | [], [], _, _ => trivial
  | b :: bs, p :: ps, e, hh => by
    obtain ⟨q1, q2⟩ := hh b (by simp)
    exact ⟨⟨by rw [q1]; exact e.1.ks, by rw [q2]; exact e.1.vs⟩, ⟨e.2.1.1, by have := e.2.1.2; omega⟩, Ents.mono hn e.2.2 fun c hc => hh c (List.mem_cons_of_mem _ hc)⟩
  | [], _ :: _, e, _ => by simp [Ents] at e
  | _ :: _, [], e, _ => by simp [Ents] at e
theorem Ents.snoc {h : Heap} {lo n : Nat} {b : Nat} {p : ByteArray × JV} (hb : EntB h b p) (h1 : lo ≤ b) (h2 : b + 1 < n) : {bs : List Nat} → {ps : List (ByteArray × JV)} → Ents h lo n bs ps → Ents h lo n (bs ++ [b]) (ps ++ [p])
  | [], [], _ => ⟨hb, ⟨h1, h2⟩, trivial⟩
  | _ :: _, _ :: _, e => ⟨e.1, e.2.1, Ents.snoc hb h1 h2 e.2.2⟩
  | [], _ :: _, e => by simp [Ents] at e
  | _ :: _, [], e => by simp [Ents] at e
theorem ents_frz {h : Heap} {lo n k : Nat} : {bs : List Nat} → {ps : List (ByteArray × JV)} → Ents h lo n bs ps → ∃ ids, mapF (frz h (k + 2)) (bs.flatMap entC) = some (encs (ps.map entV), ids) ∧ ∀ i ∈ ids, lo ≤ i
  | [], [], _ => ⟨[], rfl, by simp⟩
  | b :: bs, p :: ps, e => by
    obtain ⟨ids, hi, hlo⟩ := ents_frz (k := k) e.2.2
    have e1 : frz h (k + 2) (.osl b 0 2) = some (.psl [.sc (.string keyB), .sc (.string valueB)] 2, [b]) := frz_w e.1.ks rfl rfl
    have e2 : frz h (k + 2) (.osl (b + 1) 0 2) = some (.psl (enc (textV p.1) ++ enc p.2) 2, [b + 1]) :=
      frz_w e.1.vs (by rw [List.length_append, enc_len, enc_len]) (by rw [purs_app, enc_pur, enc_pur]; rfl)
    refine ⟨(b + 1) :: b :: ids, ?_, ?_⟩
    · simp only [List.flatMap_cons, entC, List.cons_append, List.nil_append, mapF, frz_s, frz_n, e1, e2, hi, List.map_cons, entV, encs, enc, List.append_nil]
      rfl
    · have h1 := e.2.1.1
      intro i hi
      rcases List.mem_cons.1 hi with rfl | hi
      · omega
      · rcases List.mem_cons.1 hi with rfl | hi
        · exact h1
        · exact hlo i hi
  | [], _ :: _, e => by simp [Ents] at e
  | _ :: _, [], e => by simp [Ents] at e
theorem frz_ow {h : Heap} {k b len es : Nat} {cs r : List AV} {fz : Bool} {ids : List Nat} (hb : h b = some (.cells cs es fz)) (hl : cs.length = len * es) (hm : mapF (frz h k) cs = some (r, ids)) : frz h (k + 1) (.osl b 0 len) = some (.psl r len, b :: ids) := by
  have hc : cut cs 0 (len * es) = cs := by rw [cut, List.drop_zero, List.take_of_length_le (by omega)]
  simp only [frz, AV.pur, Bool.false_eq_true, if_false, hb]
  rw [if_pos (by omega), hc, hm]
  rfl
theorem shut_lo {h : Heap} {ids : List Nat} {b lo : Nat} (hlo : ∀ i ∈ ids, lo ≤ i) (hb : b < lo) : shutIds h ids b = h b := by
  unfold shutIds
  rw [if_neg]
  intro hc
  have := hlo b (by simpa using hc)
  omega
theorem entC_len : (bs : List Nat) → (bs.flatMap entC).length = bs.length * 7
  | [] => rfl
  | b :: bs => by
    have h7 : (entC b).length = 7 := rfl
    rw [List.flatMap_cons, List.length_append, entC_len bs, h7, List.length_cons]
    omega
def OwnE (x : AV) (h : Heap) (n lo : Nat) (bs : List Nat) : Prop := (x = .nilS ∧ bs = []) ∨ ∃ b, x = .osl b 0 bs.length ∧ h b = some (.cells (bs.flatMap entC) 7 false) ∧ lo ≤ b ∧ b < n ∧ ∀ c ∈ bs, c ≠ b ∧ c + 1 ≠ b
theorem ent_fit {l : List JV} {ks : List ByteArray} (hl : Fits l) (hk : ∀ s ∈ ks, s.size ≤ 140737488355328) (hn : l.length ≤ 4096) : Fit (.mk 5 false [] 0 ⟨#[]⟩ ((ks.zip l).map entV) []) := by
  have key : ∀ ps : List (ByteArray × JV), (∀ p ∈ ps, p.1.size ≤ 140737488355328 ∧ Fit p.2) → Fits (ps.map entV) := by
    intro ps
    induction ps with
    | nil => intro _; trivial
    | cons p ps ih =>
      intro h
      obtain ⟨h1, h2⟩ := h p (by simp)
      refine ⟨⟨⟨by omega, by omega, by simp, by simp, by simp [ByteArray.size], by simp, by simp, ?_⟩, ⟨⟨⟨by omega, by omega, by simp, by simp, h1, by simp, by simp, by simp⟩, trivial⟩, h2, trivial⟩⟩, ih fun q hq => h q (List.mem_cons_of_mem _ hq)⟩
      intro s hs
      simp only [List.mem_cons, List.not_mem_nil, or_false] at hs
      rcases hs with rfl | rfl <;> simp [keyB, valueB, ByteArray.size]
  refine ⟨⟨by omega, by omega, by simp, by simp, by simp [ByteArray.size], ?_, by simp, by simp⟩, key _ fun p hp => ?_⟩
  · have : (ks.zip l).length ≤ l.length := by rw [List.length_zip]; omega
    rw [List.length_map]
    omega
  · obtain ⟨a, b⟩ := p
    have := List.of_mem_zip hp
    exact ⟨hk a this.1, Fits_mem hl b this.2⟩
theorem k_zm {C : Cfg} {d : Bool} {h : Heap} {n : Nat} {K : AV → List Nat → Heap → Nat → Prop} {g : FuncId} {all fz : List AV} {ids : List Nat} (hb : all.all noBox = true) (hm : mapF (frz h 64) all = some (fz, ids)) (hz : Gz C d h n K g all fz ids) : Gk C d h n K g all := hz.go hb hm
set_option maxHeartbeats 8000000 in
set_option maxRecDepth 100000 in
theorem pc21O (G : Nat → Option (List AV)) (l : List JV) (ks : List ByteArray)
    (hv : Fit (.mk 6 false [] 0 ⟨#[]⟩ l ks)) (hc : chk (.mk 6 false [] 0 ⟨#[]⟩ l ks) = 0) (hl : ks.length = l.length) (hk : l.length ≤ 4096)
    (hfit : Fit (.mk 5 false [] 0 ⟨#[]⟩ ((ks.zip l).map entV) [])) :
    Pc (Cf G) 21 [.agg (enc (.mk 6 false [] 0 ⟨#[]⟩ l ks))] (.tup [.agg (enc (whole (.mk 5 false [] 0 ⟨#[]⟩ ((ks.zip l).map entV) []) 0).1), .sc (.int .i64 (whole (.mk 5 false [] 0 ⟨#[]⟩ ((ks.zip l).map entV) []) 0).2)]) := by
  have h1 := pc44 G (.mk 6 false [] 0 ⟨#[]⟩ l ks) hv
  have h47 := pc47 G _ 0 hfit
  rw [hc] at h1
  generalize hW : whole (.mk 5 false [] 0 ⟨#[]⟩ ((ks.zip l).map entV) []) 0 = W at *
  obtain ⟨⟨k1, g1, c1, e1, w1, l1, s1⟩, f1⟩ := W
  simp only [enc, u32s, List.map_nil, List.length_nil] at h1 h47 ⊢
  have hzl : (ks.zip l).length = ks.length := by rw [List.length_zip]; omega
  refine Pc_of (Gf_enter (C := Cf G) Tryz.func21 rfl ok21 (Nat.le_of_ble_eq_true rfl) ?_)
  simp only [Tryz.f21, Option.getD_some]
  refine wC1 trivial (wa h1 trivial) ?_
  refine Gc_loop_inv (fun m st => ∃ d bs, d + m = ks.length ∧ 3 ≤ st.n ∧ st.T 1 = .ptr 0 0 ∧ st.T 2 = .ptr 1 0 ∧ st.T 5 = .ptr 2 0 ∧ st.T 20 = .psl (strs ks) ks.length ∧ st.T 21 = .sc (.int .i64 ks.length) ∧ st.T 22 = .sc (.int .i64 d) ∧
    st.h 0 = some (.cells [.sc (.int .i64 6), .sc (.bool false), .psl [] 0, .sc (.int .i64 0), .sc (.string ⟨#[]⟩), .psl (encs l) l.length, .psl (strs ks) ks.length] 0 false) ∧
    st.h 1 = some (.cells [.sc (.int .i64 0), .sc (.bool false), .nilS, .sc (.int .i64 0), .sc (.string ⟨#[]⟩), .nilS, .nilS] 0 false) ∧
    Ents st.h 3 st.n bs ((ks.zip l).take d) ∧
    ∃ x, st.h 2 = some (.cells [.sc (.int .i64 5), .sc (.bool false), .nilS, .sc (.int .i64 0), .sc (.string ⟨#[]⟩), x, .nilS] 0 false) ∧ OwnE x st.h st.n 3 bs) ?_ ks.length _ ⟨0, [], Nat.zero_add _, Nat.le_refl _, rfl, rfl, rfl, rfl, rfl, rfl, rfl, rfl, trivial, .nilS, rfl, .inl ⟨rfl, rfl⟩⟩
  rintro m ⟨T, h, n⟩ ⟨d, bs, hdm, hn3, t1, t2, t5, t20, t21, t22, q0, r1, he, x, q2, ho⟩
  simp only at hn3 t1 t2 t5 t20 t21 t22 q0 r1 he q2 ho
  have hbl := he.len
  rw [List.length_take, hzl] at hbl
  cases m with
  | zero =>
    have e : d = ks.length := by omega
    subst e
    rw [List.take_of_length_le (by omega)] at he
    have hge : ¬ (ks.length : Int) < (ks.length : Int) := by omega
    obtain ⟨ids, hfz, hlo⟩ := ents_frz (k := 60) he
    have hbl' : bs.length = (ks.zip l).length := by rw [hbl]; omega
    rcases ho with ⟨rfl, rfl⟩ | ⟨b, rfl, hb, hb3, hbn, hbs⟩
    · have hz0 : ks.zip l = [] := List.eq_nil_of_length_eq_zero (by rw [← hbl']; rfl)
      rw [hz0] at h47
      repeat' first | refine w_op rfl rfl ?_ | refine x_p rfl ?_ | refine w_sr ?_ | refine st_nil ?_ | refine w_seq ?_ | refine st_region ?_ | refine st_block ?_ | refine w_cond ?_ | refine b_t ?_ | refine b_f ?_ | refine st_skip ?_ | refine st_exit ?_ | refine st_ret ?_ | refine st_onNormN ?_ | refine st_onNormE ?_ | refine st_onNormR ?_ | refine st_onExitN ?_ | refine st_onExitR ?_ | refine st_onExitS ?_ | refine st_onExitO (by decide) ?_ | refine g_t ?_ | refine g_f rfl ?_ | refine o_op rfl ?_ | refine w_wr ?_ | refine w_wn ?_ | refine d_c rfl ?_ | refine d_on rfl ?_ | refine d_op rfl ?_ | refine d_y ?_ | refine d_gd rfl ?_ | refine d_t ?_ | refine d_f ?_ | refine d_nil ?_ | refine w_dr rfl ?_ | refine d_q ?_ | refine n_0 rfl ?_ | refine d_n ?_ | refine k_o rfl rfl rfl ?_ | refine w_gd rfl ?_ | ((first | refine zE1 ?_ | refine w_cl rfl rfl ?_ | refine o_cl rfl ?_ | refine d_cl rfl ?_); (conv => arg 1; try simp only [go_sem, Nat.reduceEqDiff, reduceIte, Nat.reduceAdd, Nat.reduceLeDiff, Nat.reduceMul, Int.reduceEq, Int.reduceLT, Int.reduceLE, Int.reduceNeg, Int.reduceAdd, Int.reduceSub, Nat.reduceLT, Nat.reduceBEq, Nat.reduceSub, Nat.reducePow, t1, t2, t5, t20, t21, t22, q0, r1, q2, hge]); first | refine zE3 ?_ | refine zE2 ?_ | refine zE4 ?_ | refine zE5 ?_ | refine zE6 ?_ | refine zE7 ?_ | refine zE8 ?_) | (refine w_u false ?_; (conv => arg 1; reduce); refine zR1 ?_) | (refine b_s (fun hb => ?_) (fun hb => ?_) <;> ((try simp only [hn1, hn2, hn3, hn4] at hb); first | (exfalso; omega) | skip)) | (first | refine g_s (fun hb => ?_) (fun hb => ?_) | refine d_s (fun hb => ?_) (fun hb => ?_)) <;> ((try simp only [hn1, hn2] at hb); rw [hb]; try simp only [hn3, hn4] at hb)
      refine k_zm rfl (fz := [.agg [.sc (.int .i64 5), .sc (.bool false), .psl [] 0, .sc (.int .i64 0), .sc (.string ⟨#[]⟩), .psl [] 0, .psl [] 0], .sc (.int .i64 0)]) (ids := []) (by simp only [mapF, frz_a, frz_s, frz_n, Option.map_some]; rfl) (z_g rfl rfl h47 rfl ?_)
      rw [shut_nil]
      refine n_1 (Nat.le_refl _) rfl ?_
      refine wB1 (wa t2 r1) ?_
      simp only [one1, frz_t, frz_a, mapF, frz_s, frz_l, frz_n, Option.map_some, List.append_nil]
    · have hfo := frz_ow hb (by rw [entC_len]) hfz
      have hlo' : ∀ i ∈ b :: ids, 3 ≤ i := fun i hi => by
        rcases List.mem_cons.1 hi with rfl | hi
        · exact hb3
        · exact hlo i hi
      rw [List.length_map, ← hbl'] at h47
      repeat' first | refine w_op rfl rfl ?_ | refine x_p rfl ?_ | refine w_sr ?_ | refine st_nil ?_ | refine w_seq ?_ | refine st_region ?_ | refine st_block ?_ | refine w_cond ?_ | refine b_t ?_ | refine b_f ?_ | refine st_skip ?_ | refine st_exit ?_ | refine st_ret ?_ | refine st_onNormN ?_ | refine st_onNormE ?_ | refine st_onNormR ?_ | refine st_onExitN ?_ | refine st_onExitR ?_ | refine st_onExitS ?_ | refine st_onExitO (by decide) ?_ | refine g_t ?_ | refine g_f rfl ?_ | refine o_op rfl ?_ | refine w_wr ?_ | refine w_wn ?_ | refine d_c rfl ?_ | refine d_on rfl ?_ | refine d_op rfl ?_ | refine d_y ?_ | refine d_gd rfl ?_ | refine d_t ?_ | refine d_f ?_ | refine d_nil ?_ | refine w_dr rfl ?_ | refine d_q ?_ | refine n_0 rfl ?_ | refine d_n ?_ | refine k_o rfl rfl rfl ?_ | refine w_gd rfl ?_ | ((first | refine zE1 ?_ | refine w_cl rfl rfl ?_ | refine o_cl rfl ?_ | refine d_cl rfl ?_); (conv => arg 1; try simp only [go_sem, Nat.reduceEqDiff, reduceIte, Nat.reduceAdd, Nat.reduceLeDiff, Nat.reduceMul, Int.reduceEq, Int.reduceLT, Int.reduceLE, Int.reduceNeg, Int.reduceAdd, Int.reduceSub, Nat.reduceLT, Nat.reduceBEq, Nat.reduceSub, Nat.reducePow, t1, t2, t5, t20, t21, t22, q0, r1, q2, hge]); first | refine zE3 ?_ | refine zE2 ?_ | refine zE4 ?_ | refine zE5 ?_ | refine zE6 ?_ | refine zE7 ?_ | refine zE8 ?_) | (refine w_u false ?_; (conv => arg 1; reduce); refine zR1 ?_) | (refine b_s (fun hb => ?_) (fun hb => ?_) <;> ((try simp only [hn1, hn2, hn3, hn4] at hb); first | (exfalso; omega) | skip)) | (first | refine g_s (fun hb => ?_) (fun hb => ?_) | refine d_s (fun hb => ?_) (fun hb => ?_)) <;> ((try simp only [hn1, hn2] at hb); rw [hb]; try simp only [hn3, hn4] at hb)
      refine k_zm rfl (fz := [.agg [.sc (.int .i64 5), .sc (.bool false), .psl [] 0, .sc (.int .i64 0), .sc (.string ⟨#[]⟩), .psl (encs ((ks.zip l).map entV)) bs.length, .psl [] 0], .sc (.int .i64 0)]) (ids := b :: ids) (by simp only [mapF, frz_a, frz_s, frz_n, hfo, Option.map_some, List.append_nil, List.nil_append]) (z_g rfl rfl h47 rfl ?_)
      have r1' : shutIds h (b :: ids) 1 = h 1 := shut_lo hlo' (by omega)
      rw [r1] at r1'
      generalize shutIds h (b :: ids) = H at *
      refine n_1 (Nat.le_refl _) rfl ?_
      refine wB1 (wa t2 r1') ?_
      simp only [one1, frz_t, frz_a, mapF, frz_s, frz_l, frz_n, Option.map_some, List.append_nil]
  | succ m =>
    have hkn : d < ks.length := by omega
    have hlt : (d : Int) < (ks.length : Int) := by omega
    have hkl : d < l.length := by omega
    have hkz : d < (ks.zip l).length := by omega
    obtain ⟨s, hs⟩ : ∃ s, ks[d]? = some s := ⟨ks[d], List.getElem?_eq_getElem hkn⟩
    obtain ⟨y, hy⟩ : ∃ y, l[d]? = some y := ⟨l[d], List.getElem?_eq_getElem hkl⟩
    have hz : (ks.zip l)[d]? = some (s, y) := by rw [List.getElem?_zip_eq_some]; exact ⟨hs, hy⟩
    have hsc : (strs ks)[d * 1]? = some (.sc (.string s)) := by simp [strs, hs]
    have htk : (ks.zip l).take (d + 1) = (ks.zip l).take d ++ [(s, y)] := by
      rw [List.take_add_one, hz]
      rfl
    have h50 := pc50 G s
    obtain ⟨hcut, hle⟩ : cut (encs l) (d * 7) 7 = enc y ∧ d * 7 + 7 ≤ (encs l).length := by
      obtain ⟨hi, he⟩ := List.getElem?_eq_some_iff.1 hy
      have e : l = l.take d ++ l[d] :: l.drop (d + 1) := by rw [← List.drop_eq_getElem_cons hi, List.take_append_drop]
      have := cut_encs (l.take d) l[d] (l.drop (d + 1))
      rw [← e, List.length_take, Nat.min_eq_left (by omega), he] at this
      exact ⟨this, by rw [encs_len]; omega⟩
    simp only [textV, enc, encs, u32s, strs, List.map_nil, List.length_nil] at h50
    have w4 : IntKind.i64.wrap ((d : Int) + 1) = ((d + 1 : Nat) : Int) := by rw [i64 (by omega) (by omega)]; omega
    have ly := enc_len y
    have oy : (enc y).all AV.one = true := by cases y; rfl
    rcases ho with ⟨rfl, hd0⟩ | ⟨b, rfl, hb, hb3, hbn, hbs⟩
    · have x0 : ¬ 0 = n := by omega
      have x0b : (0 == n) = false := beq_false_of_ne (by omega)
      have x1 : ¬ 0 = n + 1 := by omega
      have x1b : (0 == n + 1) = false := beq_false_of_ne (by omega)
      have x2 : ¬ 0 = n + 1 + 1 := by omega
      have x2b : (0 == n + 1 + 1) = false := beq_false_of_ne (by omega)
      have x3 : ¬ 0 = n + 1 + 1 + 1 := by omega
      have x3b : (0 == n + 1 + 1 + 1) = false := beq_false_of_ne (by omega)
      have x4 : ¬ 1 = n := by omega
      have x4b : (1 == n) = false := beq_false_of_ne (by omega)
      have x5 : ¬ 1 = n + 1 := by omega
      have x5b : (1 == n + 1) = false := beq_false_of_ne (by omega)
      have x6 : ¬ 1 = n + 1 + 1 := by omega
      have x6b : (1 == n + 1 + 1) = false := beq_false_of_ne (by omega)
      have x7 : ¬ 1 = n + 1 + 1 + 1 := by omega
      have x7b : (1 == n + 1 + 1 + 1) = false := beq_false_of_ne (by omega)
      have x8 : ¬ 2 = n := by omega
      have x8b : (2 == n) = false := beq_false_of_ne (by omega)
      have x9 : ¬ 2 = n + 1 := by omega
      have x9b : (2 == n + 1) = false := beq_false_of_ne (by omega)
      have x10 : ¬ 2 = n + 1 + 1 := by omega
      have x10b : (2 == n + 1 + 1) = false := beq_false_of_ne (by omega)
      have x11 : ¬ 2 = n + 1 + 1 + 1 := by omega
      have x11b : (2 == n + 1 + 1 + 1) = false := beq_false_of_ne (by omega)
      have x12 : ¬ n = 0 := by omega
      have x12b : (n == 0) = false := beq_false_of_ne (by omega)
      have x13 : ¬ n = 1 := by omega
      have x13b : (n == 1) = false := beq_false_of_ne (by omega)
      have x14 : ¬ n = 2 := by omega
      have x14b : (n == 2) = false := beq_false_of_ne (by omega)
      have x15 : ¬ n = n + 1 := by omega
      have x15b : (n == n + 1) = false := beq_false_of_ne (by omega)
      have x16 : ¬ n = n + 1 + 1 := by omega
      have x16b : (n == n + 1 + 1) = false := beq_false_of_ne (by omega)
      have x17 : ¬ n = n + 1 + 1 + 1 := by omega
      have x17b : (n == n + 1 + 1 + 1) = false := beq_false_of_ne (by omega)
      have x18 : ¬ n + 1 = 0 := by omega
      have x18b : (n + 1 == 0) = false := beq_false_of_ne (by omega)
      have x19 : ¬ n + 1 = 1 := by omega
      have x19b : (n + 1 == 1) = false := beq_false_of_ne (by omega)
      have x20 : ¬ n + 1 = 2 := by omega
      have x20b : (n + 1 == 2) = false := beq_false_of_ne (by omega)
      have x21 : ¬ n + 1 = n := by omega
      have x21b : (n + 1 == n) = false := beq_false_of_ne (by omega)
      have x22 : ¬ n + 1 = n + 1 + 1 := by omega
      have x22b : (n + 1 == n + 1 + 1) = false := beq_false_of_ne (by omega)
      have x23 : ¬ n + 1 = n + 1 + 1 + 1 := by omega
      have x23b : (n + 1 == n + 1 + 1 + 1) = false := beq_false_of_ne (by omega)
      have x24 : ¬ n + 1 + 1 = 0 := by omega
      have x24b : (n + 1 + 1 == 0) = false := beq_false_of_ne (by omega)
      have x25 : ¬ n + 1 + 1 = 1 := by omega
      have x25b : (n + 1 + 1 == 1) = false := beq_false_of_ne (by omega)
      have x26 : ¬ n + 1 + 1 = 2 := by omega
      have x26b : (n + 1 + 1 == 2) = false := beq_false_of_ne (by omega)
      have x27 : ¬ n + 1 + 1 = n := by omega
      have x27b : (n + 1 + 1 == n) = false := beq_false_of_ne (by omega)
      have x28 : ¬ n + 1 + 1 = n + 1 := by omega
      have x28b : (n + 1 + 1 == n + 1) = false := beq_false_of_ne (by omega)
      have x29 : ¬ n + 1 + 1 = n + 1 + 1 + 1 := by omega
      have x29b : (n + 1 + 1 == n + 1 + 1 + 1) = false := beq_false_of_ne (by omega)
      have x30 : ¬ n + 1 + 1 + 1 = 0 := by omega
      have x30b : (n + 1 + 1 + 1 == 0) = false := beq_false_of_ne (by omega)
      have x31 : ¬ n + 1 + 1 + 1 = 1 := by omega
      have x31b : (n + 1 + 1 + 1 == 1) = false := beq_false_of_ne (by omega)
      have x32 : ¬ n + 1 + 1 + 1 = 2 := by omega
      have x32b : (n + 1 + 1 + 1 == 2) = false := beq_false_of_ne (by omega)
      have x33 : ¬ n + 1 + 1 + 1 = n := by omega
      have x33b : (n + 1 + 1 + 1 == n) = false := beq_false_of_ne (by omega)
      have x34 : ¬ n + 1 + 1 + 1 = n + 1 := by omega
      have x34b : (n + 1 + 1 + 1 == n + 1) = false := beq_false_of_ne (by omega)
      have x35 : ¬ n + 1 + 1 + 1 = n + 1 + 1 := by omega
      have x35b : (n + 1 + 1 + 1 == n + 1 + 1) = false := beq_false_of_ne (by omega)
      refine gC1 (wa t1 (wa t2 (wa t5 (wa t20 (wa t21 (wa t22 (wa q0 (wa q2 (wa hkn (wa hlt (wa hkl (wa hsc (wa hcut (wa hle (wa w4 (wa ly (wa oy (wa x0 (wa x0b (wa x1 (wa x1b (wa x2 (wa x2b (wa x3 (wa x3b (wa x4 (wa x4b (wa x5 (wa x5b (wa x6 (wa x6b (wa x7 (wa x7b (wa x8 (wa x8b (wa x9 (wa x9b (wa x10 (wa x10b (wa x11 (wa x11b (wa x12 (wa x12b (wa x13 (wa x13b (wa x14 (wa x14b (wa x15 (wa x15b (wa x16 (wa x16b (wa x17 (wa x17b (wa x18 (wa x18b (wa x19 (wa x19b (wa x20 (wa x20b (wa x21 (wa x21b (wa x22 (wa x22b (wa x23 (wa x23b (wa x24 (wa x24b (wa x25 (wa x25b (wa x26 (wa x26b (wa x27 (wa x27b (wa x28 (wa x28b (wa x29 (wa x29b (wa x30 (wa x30b (wa x31 (wa x31b (wa x32 (wa x32b (wa x33 (wa x33b (wa x34 (wa x34b (wa x35 x35b)))))))))))))))))))))))))))))))))))))))))))))))))))))))))))))))))))))))))))))))))))))))) (wa h50 trivial) ?_
      subst hd0
      refine ⟨m, by omega, d + 1, [n], by omega, by simp only; omega, ?_, ?_, ?_, ?_, ?_, ?_, ?_, ?_, ?_, .osl (n + 1 + 1 + 1) 0 1, ?_, .inr ⟨n + 1 + 1 + 1, rfl, ?_, by omega, by simp only; omega, ?_⟩⟩
      · simp only [vop, val, argsT, upd_ap, Nat.reduceEqDiff, if_true, if_false, ite_true, ite_false, reduceIte, loadAt, loadA, AV.cells, AV.one, List.all_cons, List.all_nil, ofV, ofCell, plain, List.getElem?_cons_zero, List.getElem?_cons_succ, List.getElem?_toArray, Option.getD_some, Bool.not_true, Bool.not_false, Bool.false_eq_true, Bool.and_true, Bool.true_and, Bool.and_self, Nat.zero_add, Option.map_some, Option.bind_some, List.map_cons, List.map_nil, ev_add, ev_sub, ev_mul, ev_lss, ev_leq, ev_gtr, ev_geq, ev_eql, ev_neq, ev_seql, ev_sneq, ev_sleq, ev_slss, ev_not, ev_min, ev_max, asNat_nat, asNat_zero, asNat_one, asNat_two, asNat_three, vb_len, List.length_cons, List.length_nil, Nat.reduceAdd, Nat.reduceLeDiff, Nat.reduceMul, Int.reduceEq, Int.reduceLT, Int.reduceLE, Int.reduceNeg, Int.reduceAdd, Int.reduceSub, Nat.reduceLT, decide_true, decide_false, not_true_eq_false, not_false_eq_true, and_self, and_true, true_and, storeA, List.take_zero, List.drop_succ_cons, List.drop_zero, List.nil_append, List.append_nil, List.take_succ_cons, List.cons_append, cut_cons, cut_zero, cut_skip, tAt, hHide, hAt, upsAt, List.contains_cons, List.contains_nil, Nat.reduceBEq, Bool.or_true, Bool.true_or, Bool.or_false, Bool.false_or, Bool.or_self, Bool.and_true, Bool.true_and, Bool.and_false, Bool.false_and, beq_self_eq_true (α := Nat), Option.some_beq_some, Option.none_beq_some, Option.some_beq_none, Bool.false_eq_true, List.all_nil, touch, touchB, Nat.sub_self, List.range'_zero, Nat.add_sub_cancel_left, List.range'_one, t1]
      · simp only [vop, val, argsT, upd_ap, Nat.reduceEqDiff, if_true, if_false, ite_true, ite_false, reduceIte, loadAt, loadA, AV.cells, AV.one, List.all_cons, List.all_nil, ofV, ofCell, plain, List.getElem?_cons_zero, List.getElem?_cons_succ, List.getElem?_toArray, Option.getD_some, Bool.not_true, Bool.not_false, Bool.false_eq_true, Bool.and_true, Bool.true_and, Bool.and_self, Nat.zero_add, Option.map_some, Option.bind_some, List.map_cons, List.map_nil, ev_add, ev_sub, ev_mul, ev_lss, ev_leq, ev_gtr, ev_geq, ev_eql, ev_neq, ev_seql, ev_sneq, ev_sleq, ev_slss, ev_not, ev_min, ev_max, asNat_nat, asNat_zero, asNat_one, asNat_two, asNat_three, vb_len, List.length_cons, List.length_nil, Nat.reduceAdd, Nat.reduceLeDiff, Nat.reduceMul, Int.reduceEq, Int.reduceLT, Int.reduceLE, Int.reduceNeg, Int.reduceAdd, Int.reduceSub, Nat.reduceLT, decide_true, decide_false, not_true_eq_false, not_false_eq_true, and_self, and_true, true_and, storeA, List.take_zero, List.drop_succ_cons, List.drop_zero, List.nil_append, List.append_nil, List.take_succ_cons, List.cons_append, cut_cons, cut_zero, cut_skip, tAt, hHide, hAt, upsAt, List.contains_cons, List.contains_nil, Nat.reduceBEq, Bool.or_true, Bool.true_or, Bool.or_false, Bool.false_or, Bool.or_self, Bool.and_true, Bool.true_and, Bool.and_false, Bool.false_and, beq_self_eq_true (α := Nat), Option.some_beq_some, Option.none_beq_some, Option.some_beq_none, Bool.false_eq_true, List.all_nil, touch, touchB, Nat.sub_self, List.range'_zero, Nat.add_sub_cancel_left, List.range'_one, t2]
      · simp only [vop, val, argsT, upd_ap, Nat.reduceEqDiff, if_true, if_false, ite_true, ite_false, reduceIte, loadAt, loadA, AV.cells, AV.one, List.all_cons, List.all_nil, ofV, ofCell, plain, List.getElem?_cons_zero, List.getElem?_cons_succ, List.getElem?_toArray, Option.getD_some, Bool.not_true, Bool.not_false, Bool.false_eq_true, Bool.and_true, Bool.true_and, Bool.and_self, Nat.zero_add, Option.map_some, Option.bind_some, List.map_cons, List.map_nil, ev_add, ev_sub, ev_mul, ev_lss, ev_leq, ev_gtr, ev_geq, ev_eql, ev_neq, ev_seql, ev_sneq, ev_sleq, ev_slss, ev_not, ev_min, ev_max, asNat_nat, asNat_zero, asNat_one, asNat_two, asNat_three, vb_len, List.length_cons, List.length_nil, Nat.reduceAdd, Nat.reduceLeDiff, Nat.reduceMul, Int.reduceEq, Int.reduceLT, Int.reduceLE, Int.reduceNeg, Int.reduceAdd, Int.reduceSub, Nat.reduceLT, decide_true, decide_false, not_true_eq_false, not_false_eq_true, and_self, and_true, true_and, storeA, List.take_zero, List.drop_succ_cons, List.drop_zero, List.nil_append, List.append_nil, List.take_succ_cons, List.cons_append, cut_cons, cut_zero, cut_skip, tAt, hHide, hAt, upsAt, List.contains_cons, List.contains_nil, Nat.reduceBEq, Bool.or_true, Bool.true_or, Bool.or_false, Bool.false_or, Bool.or_self, Bool.and_true, Bool.true_and, Bool.and_false, Bool.false_and, beq_self_eq_true (α := Nat), Option.some_beq_some, Option.none_beq_some, Option.some_beq_none, Bool.false_eq_true, List.all_nil, touch, touchB, Nat.sub_self, List.range'_zero, Nat.add_sub_cancel_left, List.range'_one, t5]
      · simp only [vop, val, argsT, upd_ap, Nat.reduceEqDiff, if_true, if_false, ite_true, ite_false, reduceIte, loadAt, loadA, AV.cells, AV.one, List.all_cons, List.all_nil, ofV, ofCell, plain, List.getElem?_cons_zero, List.getElem?_cons_succ, List.getElem?_toArray, Option.getD_some, Bool.not_true, Bool.not_false, Bool.false_eq_true, Bool.and_true, Bool.true_and, Bool.and_self, Nat.zero_add, Option.map_some, Option.bind_some, List.map_cons, List.map_nil, ev_add, ev_sub, ev_mul, ev_lss, ev_leq, ev_gtr, ev_geq, ev_eql, ev_neq, ev_seql, ev_sneq, ev_sleq, ev_slss, ev_not, ev_min, ev_max, asNat_nat, asNat_zero, asNat_one, asNat_two, asNat_three, vb_len, List.length_cons, List.length_nil, Nat.reduceAdd, Nat.reduceLeDiff, Nat.reduceMul, Int.reduceEq, Int.reduceLT, Int.reduceLE, Int.reduceNeg, Int.reduceAdd, Int.reduceSub, Nat.reduceLT, decide_true, decide_false, not_true_eq_false, not_false_eq_true, and_self, and_true, true_and, storeA, List.take_zero, List.drop_succ_cons, List.drop_zero, List.nil_append, List.append_nil, List.take_succ_cons, List.cons_append, cut_cons, cut_zero, cut_skip, tAt, hHide, hAt, upsAt, List.contains_cons, List.contains_nil, Nat.reduceBEq, Bool.or_true, Bool.true_or, Bool.or_false, Bool.false_or, Bool.or_self, Bool.and_true, Bool.true_and, Bool.and_false, Bool.false_and, beq_self_eq_true (α := Nat), Option.some_beq_some, Option.none_beq_some, Option.some_beq_none, Bool.false_eq_true, List.all_nil, touch, touchB, Nat.sub_self, List.range'_zero, Nat.add_sub_cancel_left, List.range'_one, t20]
      · simp only [vop, val, argsT, upd_ap, Nat.reduceEqDiff, if_true, if_false, ite_true, ite_false, reduceIte, loadAt, loadA, AV.cells, AV.one, List.all_cons, List.all_nil, ofV, ofCell, plain, List.getElem?_cons_zero, List.getElem?_cons_succ, List.getElem?_toArray, Option.getD_some, Bool.not_true, Bool.not_false, Bool.false_eq_true, Bool.and_true, Bool.true_and, Bool.and_self, Nat.zero_add, Option.map_some, Option.bind_some, List.map_cons, List.map_nil, ev_add, ev_sub, ev_mul, ev_lss, ev_leq, ev_gtr, ev_geq, ev_eql, ev_neq, ev_seql, ev_sneq, ev_sleq, ev_slss, ev_not, ev_min, ev_max, asNat_nat, asNat_zero, asNat_one, asNat_two, asNat_three, vb_len, List.length_cons, List.length_nil, Nat.reduceAdd, Nat.reduceLeDiff, Nat.reduceMul, Int.reduceEq, Int.reduceLT, Int.reduceLE, Int.reduceNeg, Int.reduceAdd, Int.reduceSub, Nat.reduceLT, decide_true, decide_false, not_true_eq_false, not_false_eq_true, and_self, and_true, true_and, storeA, List.take_zero, List.drop_succ_cons, List.drop_zero, List.nil_append, List.append_nil, List.take_succ_cons, List.cons_append, cut_cons, cut_zero, cut_skip, tAt, hHide, hAt, upsAt, List.contains_cons, List.contains_nil, Nat.reduceBEq, Bool.or_true, Bool.true_or, Bool.or_false, Bool.false_or, Bool.or_self, Bool.and_true, Bool.true_and, Bool.and_false, Bool.false_and, beq_self_eq_true (α := Nat), Option.some_beq_some, Option.none_beq_some, Option.some_beq_none, Bool.false_eq_true, List.all_nil, touch, touchB, Nat.sub_self, List.range'_zero, Nat.add_sub_cancel_left, List.range'_one, t21]
      · simp [upd_ap]
      · simp only [vop, val, argsT, upd_ap, Nat.reduceEqDiff, if_true, if_false, ite_true, ite_false, reduceIte, loadAt, loadA, AV.cells, AV.one, List.all_cons, List.all_nil, ofV, ofCell, plain, List.getElem?_cons_zero, List.getElem?_cons_succ, List.getElem?_toArray, Option.getD_some, Bool.not_true, Bool.not_false, Bool.false_eq_true, Bool.and_true, Bool.true_and, Bool.and_self, Nat.zero_add, Option.map_some, Option.bind_some, List.map_cons, List.map_nil, ev_add, ev_sub, ev_mul, ev_lss, ev_leq, ev_gtr, ev_geq, ev_eql, ev_neq, ev_seql, ev_sneq, ev_sleq, ev_slss, ev_not, ev_min, ev_max, asNat_nat, asNat_zero, asNat_one, asNat_two, asNat_three, vb_len, List.length_cons, List.length_nil, Nat.reduceAdd, Nat.reduceLeDiff, Nat.reduceMul, Int.reduceEq, Int.reduceLT, Int.reduceLE, Int.reduceNeg, Int.reduceAdd, Int.reduceSub, Nat.reduceLT, decide_true, decide_false, not_true_eq_false, not_false_eq_true, and_self, and_true, true_and, storeA, List.take_zero, List.drop_succ_cons, List.drop_zero, List.nil_append, List.append_nil, List.take_succ_cons, List.cons_append, cut_cons, cut_zero, cut_skip, tAt, hHide, hAt, upsAt, List.contains_cons, List.contains_nil, Nat.reduceBEq, Bool.or_true, Bool.true_or, Bool.or_false, Bool.false_or, Bool.or_self, Bool.and_true, Bool.true_and, Bool.and_false, Bool.false_and, beq_self_eq_true (α := Nat), Option.some_beq_some, Option.none_beq_some, Option.some_beq_none, Bool.false_eq_true, List.all_nil, touch, touchB, Nat.sub_self, List.range'_zero, Nat.add_sub_cancel_left, List.range'_one, x0, x0b, x1, x1b, x2, x2b, x3, x3b, x4, x4b, x5, x5b, x6, x6b, x7, x7b, x8, x8b, x9, x9b, x10, x10b, x11, x11b, x12, x12b, x13, x13b, x14, x14b, x15, x15b, x16, x16b, x17, x17b, x18, x18b, x19, x19b, x20, x20b, x21, x21b, x22, x22b, x23, x23b, x24, x24b, x25, x25b, x26, x26b, x27, x27b, x28, x28b, x29, x29b, x30, x30b, x31, x31b, x32, x32b, x33, x33b, x34, x34b, x35, x35b, q0]
      · simp only [vop, val, argsT, upd_ap, Nat.reduceEqDiff, if_true, if_false, ite_true, ite_false, reduceIte, loadAt, loadA, AV.cells, AV.one, List.all_cons, List.all_nil, ofV, ofCell, plain, List.getElem?_cons_zero, List.getElem?_cons_succ, List.getElem?_toArray, Option.getD_some, Bool.not_true, Bool.not_false, Bool.false_eq_true, Bool.and_true, Bool.true_and, Bool.and_self, Nat.zero_add, Option.map_some, Option.bind_some, List.map_cons, List.map_nil, ev_add, ev_sub, ev_mul, ev_lss, ev_leq, ev_gtr, ev_geq, ev_eql, ev_neq, ev_seql, ev_sneq, ev_sleq, ev_slss, ev_not, ev_min, ev_max, asNat_nat, asNat_zero, asNat_one, asNat_two, asNat_three, vb_len, List.length_cons, List.length_nil, Nat.reduceAdd, Nat.reduceLeDiff, Nat.reduceMul, Int.reduceEq, Int.reduceLT, Int.reduceLE, Int.reduceNeg, Int.reduceAdd, Int.reduceSub, Nat.reduceLT, decide_true, decide_false, not_true_eq_false, not_false_eq_true, and_self, and_true, true_and, storeA, List.take_zero, List.drop_succ_cons, List.drop_zero, List.nil_append, List.append_nil, List.take_succ_cons, List.cons_append, cut_cons, cut_zero, cut_skip, tAt, hHide, hAt, upsAt, List.contains_cons, List.contains_nil, Nat.reduceBEq, Bool.or_true, Bool.true_or, Bool.or_false, Bool.false_or, Bool.or_self, Bool.and_true, Bool.true_and, Bool.and_false, Bool.false_and, beq_self_eq_true (α := Nat), Option.some_beq_some, Option.none_beq_some, Option.some_beq_none, Bool.false_eq_true, List.all_nil, touch, touchB, Nat.sub_self, List.range'_zero, Nat.add_sub_cancel_left, List.range'_one, x0, x0b, x1, x1b, x2, x2b, x3, x3b, x4, x4b, x5, x5b, x6, x6b, x7, x7b, x8, x8b, x9, x9b, x10, x10b, x11, x11b, x12, x12b, x13, x13b, x14, x14b, x15, x15b, x16, x16b, x17, x17b, x18, x18b, x19, x19b, x20, x20b, x21, x21b, x22, x22b, x23, x23b, x24, x24b, x25, x25b, x26, x26b, x27, x27b, x28, x28b, x29, x29b, x30, x30b, x31, x31b, x32, x32b, x33, x33b, x34, x34b, x35, x35b, r1]
      · rw [htk]
        have he0 : (ks.zip l).take d = [] := by rw [List.length_nil] at hbl; exact List.eq_nil_of_length_eq_zero (by rw [List.length_take]; omega)
        rw [he0]
        refine ⟨⟨?_, ?_⟩, ⟨by omega, by simp only; omega⟩, trivial⟩
        · simp only [vop, val, argsT, upd_ap, Nat.reduceEqDiff, if_true, if_false, ite_true, ite_false, reduceIte, loadAt, loadA, AV.cells, AV.one, List.all_cons, List.all_nil, ofV, ofCell, plain, List.getElem?_cons_zero, List.getElem?_cons_succ, List.getElem?_toArray, Option.getD_some, Bool.not_true, Bool.not_false, Bool.false_eq_true, Bool.and_true, Bool.true_and, Bool.and_self, Nat.zero_add, Option.map_some, Option.bind_some, List.map_cons, List.map_nil, ev_add, ev_sub, ev_mul, ev_lss, ev_leq, ev_gtr, ev_geq, ev_eql, ev_neq, ev_seql, ev_sneq, ev_sleq, ev_slss, ev_not, ev_min, ev_max, asNat_nat, asNat_zero, asNat_one, asNat_two, asNat_three, vb_len, List.length_cons, List.length_nil, Nat.reduceAdd, Nat.reduceLeDiff, Nat.reduceMul, Int.reduceEq, Int.reduceLT, Int.reduceLE, Int.reduceNeg, Int.reduceAdd, Int.reduceSub, Nat.reduceLT, decide_true, decide_false, not_true_eq_false, not_false_eq_true, and_self, and_true, true_and, storeA, List.take_zero, List.drop_succ_cons, List.drop_zero, List.nil_append, List.append_nil, List.take_succ_cons, List.cons_append, cut_cons, cut_zero, cut_skip, tAt, hHide, hAt, upsAt, List.contains_cons, List.contains_nil, Nat.reduceBEq, Bool.or_true, Bool.true_or, Bool.or_false, Bool.false_or, Bool.or_self, Bool.and_true, Bool.true_and, Bool.and_false, Bool.false_and, beq_self_eq_true (α := Nat), Option.some_beq_some, Option.none_beq_some, Option.some_beq_none, Bool.false_eq_true, List.all_nil, touch, touchB, Nat.sub_self, List.range'_zero, Nat.add_sub_cancel_left, List.range'_one, x0, x0b, x1, x1b, x2, x2b, x3, x3b, x4, x4b, x5, x5b, x6, x6b, x7, x7b, x8, x8b, x9, x9b, x10, x10b, x11, x11b, x12, x12b, x13, x13b, x14, x14b, x15, x15b, x16, x16b, x17, x17b, x18, x18b, x19, x19b, x20, x20b, x21, x21b, x22, x22b, x23, x23b, x24, x24b, x25, x25b, x26, x26b, x27, x27b, x28, x28b, x29, x29b, x30, x30b, x31, x31b, x32, x32b, x33, x33b, x34, x34b, x35, x35b]
          rfl
        · simp only [vop, val, argsT, upd_ap, Nat.reduceEqDiff, if_true, if_false, ite_true, ite_false, reduceIte, loadAt, loadA, AV.cells, AV.one, List.all_cons, List.all_nil, ofV, ofCell, plain, List.getElem?_cons_zero, List.getElem?_cons_succ, List.getElem?_toArray, Option.getD_some, Bool.not_true, Bool.not_false, Bool.false_eq_true, Bool.and_true, Bool.true_and, Bool.and_self, Nat.zero_add, Option.map_some, Option.bind_some, List.map_cons, List.map_nil, ev_add, ev_sub, ev_mul, ev_lss, ev_leq, ev_gtr, ev_geq, ev_eql, ev_neq, ev_seql, ev_sneq, ev_sleq, ev_slss, ev_not, ev_min, ev_max, asNat_nat, asNat_zero, asNat_one, asNat_two, asNat_three, vb_len, List.length_cons, List.length_nil, Nat.reduceAdd, Nat.reduceLeDiff, Nat.reduceMul, Int.reduceEq, Int.reduceLT, Int.reduceLE, Int.reduceNeg, Int.reduceAdd, Int.reduceSub, Nat.reduceLT, decide_true, decide_false, not_true_eq_false, not_false_eq_true, and_self, and_true, true_and, storeA, List.take_zero, List.drop_succ_cons, List.drop_zero, List.nil_append, List.append_nil, List.take_succ_cons, List.cons_append, cut_cons, cut_zero, cut_skip, tAt, hHide, hAt, upsAt, List.contains_cons, List.contains_nil, Nat.reduceBEq, Bool.or_true, Bool.true_or, Bool.or_false, Bool.false_or, Bool.or_self, Bool.and_true, Bool.true_and, Bool.and_false, Bool.false_and, beq_self_eq_true (α := Nat), Option.some_beq_some, Option.none_beq_some, Option.some_beq_none, Bool.false_eq_true, List.all_nil, touch, touchB, Nat.sub_self, List.range'_zero, Nat.add_sub_cancel_left, List.range'_one, x0, x0b, x1, x1b, x2, x2b, x3, x3b, x4, x4b, x5, x5b, x6, x6b, x7, x7b, x8, x8b, x9, x9b, x10, x10b, x11, x11b, x12, x12b, x13, x13b, x14, x14b, x15, x15b, x16, x16b, x17, x17b, x18, x18b, x19, x19b, x20, x20b, x21, x21b, x22, x22b, x23, x23b, x24, x24b, x25, x25b, x26, x26b, x27, x27b, x28, x28b, x29, x29b, x30, x30b, x31, x31b, x32, x32b, x33, x33b, x34, x34b, x35, x35b, ly]
          first | rfl | (show some (Blk.cells (enc (textV s) ++ (enc y ++ [])) 7 false) = _; rw [List.append_nil])
      · simp only [vop, val, argsT, upd_ap, Nat.reduceEqDiff, if_true, if_false, ite_true, ite_false, reduceIte, loadAt, loadA, AV.cells, AV.one, List.all_cons, List.all_nil, ofV, ofCell, plain, List.getElem?_cons_zero, List.getElem?_cons_succ, List.getElem?_toArray, Option.getD_some, Bool.not_true, Bool.not_false, Bool.false_eq_true, Bool.and_true, Bool.true_and, Bool.and_self, Nat.zero_add, Option.map_some, Option.bind_some, List.map_cons, List.map_nil, ev_add, ev_sub, ev_mul, ev_lss, ev_leq, ev_gtr, ev_geq, ev_eql, ev_neq, ev_seql, ev_sneq, ev_sleq, ev_slss, ev_not, ev_min, ev_max, asNat_nat, asNat_zero, asNat_one, asNat_two, asNat_three, vb_len, List.length_cons, List.length_nil, Nat.reduceAdd, Nat.reduceLeDiff, Nat.reduceMul, Int.reduceEq, Int.reduceLT, Int.reduceLE, Int.reduceNeg, Int.reduceAdd, Int.reduceSub, Nat.reduceLT, decide_true, decide_false, not_true_eq_false, not_false_eq_true, and_self, and_true, true_and, storeA, List.take_zero, List.drop_succ_cons, List.drop_zero, List.nil_append, List.append_nil, List.take_succ_cons, List.cons_append, cut_cons, cut_zero, cut_skip, tAt, hHide, hAt, upsAt, List.contains_cons, List.contains_nil, Nat.reduceBEq, Bool.or_true, Bool.true_or, Bool.or_false, Bool.false_or, Bool.or_self, Bool.and_true, Bool.true_and, Bool.and_false, Bool.false_and, beq_self_eq_true (α := Nat), Option.some_beq_some, Option.none_beq_some, Option.some_beq_none, Bool.false_eq_true, List.all_nil, touch, touchB, Nat.sub_self, List.range'_zero, Nat.add_sub_cancel_left, List.range'_one, x0, x0b, x1, x1b, x2, x2b, x3, x3b, x4, x4b, x5, x5b, x6, x6b, x7, x7b, x8, x8b, x9, x9b, x10, x10b, x11, x11b, x12, x12b, x13, x13b, x14, x14b, x15, x15b, x16, x16b, x17, x17b, x18, x18b, x19, x19b, x20, x20b, x21, x21b, x22, x22b, x23, x23b, x24, x24b, x25, x25b, x26, x26b, x27, x27b, x28, x28b, x29, x29b, x30, x30b, x31, x31b, x32, x32b, x33, x33b, x34, x34b, x35, x35b, q2]
      · simp only [vop, val, argsT, upd_ap, Nat.reduceEqDiff, if_true, if_false, ite_true, ite_false, reduceIte, loadAt, loadA, AV.cells, AV.one, List.all_cons, List.all_nil, ofV, ofCell, plain, List.getElem?_cons_zero, List.getElem?_cons_succ, List.getElem?_toArray, Option.getD_some, Bool.not_true, Bool.not_false, Bool.false_eq_true, Bool.and_true, Bool.true_and, Bool.and_self, Nat.zero_add, Option.map_some, Option.bind_some, List.map_cons, List.map_nil, ev_add, ev_sub, ev_mul, ev_lss, ev_leq, ev_gtr, ev_geq, ev_eql, ev_neq, ev_seql, ev_sneq, ev_sleq, ev_slss, ev_not, ev_min, ev_max, asNat_nat, asNat_zero, asNat_one, asNat_two, asNat_three, vb_len, List.length_cons, List.length_nil, Nat.reduceAdd, Nat.reduceLeDiff, Nat.reduceMul, Int.reduceEq, Int.reduceLT, Int.reduceLE, Int.reduceNeg, Int.reduceAdd, Int.reduceSub, Nat.reduceLT, decide_true, decide_false, not_true_eq_false, not_false_eq_true, and_self, and_true, true_and, storeA, List.take_zero, List.drop_succ_cons, List.drop_zero, List.nil_append, List.append_nil, List.take_succ_cons, List.cons_append, cut_cons, cut_zero, cut_skip, tAt, hHide, hAt, upsAt, List.contains_cons, List.contains_nil, Nat.reduceBEq, Bool.or_true, Bool.true_or, Bool.or_false, Bool.false_or, Bool.or_self, Bool.and_true, Bool.true_and, Bool.and_false, Bool.false_and, beq_self_eq_true (α := Nat), Option.some_beq_some, Option.none_beq_some, Option.some_beq_none, Bool.false_eq_true, List.all_nil, touch, touchB, Nat.sub_self, List.range'_zero, Nat.add_sub_cancel_left, List.range'_one, x0, x0b, x1, x1b, x2, x2b, x3, x3b, x4, x4b, x5, x5b, x6, x6b, x7, x7b, x8, x8b, x9, x9b, x10, x10b, x11, x11b, x12, x12b, x13, x13b, x14, x14b, x15, x15b, x16, x16b, x17, x17b, x18, x18b, x19, x19b, x20, x20b, x21, x21b, x22, x22b, x23, x23b, x24, x24b, x25, x25b, x26, x26b, x27, x27b, x28, x28b, x29, x29b, x30, x30b, x31, x31b, x32, x32b, x33, x33b, x34, x34b, x35, x35b]
        rfl
      · intro c hc
        rw [List.mem_singleton.1 hc]
        omega
    · have x0 : ¬ 0 = n := by omega
      have x0b : (0 == n) = false := beq_false_of_ne (by omega)
      have x1 : ¬ 0 = n + 1 := by omega
      have x1b : (0 == n + 1) = false := beq_false_of_ne (by omega)
      have x2 : ¬ 0 = n + 1 + 1 := by omega
      have x2b : (0 == n + 1 + 1) = false := beq_false_of_ne (by omega)
      have x3 : ¬ 0 = n + 1 + 1 + 1 := by omega
      have x3b : (0 == n + 1 + 1 + 1) = false := beq_false_of_ne (by omega)
      have x4 : ¬ 1 = n := by omega
      have x4b : (1 == n) = false := beq_false_of_ne (by omega)
      have x5 : ¬ 1 = n + 1 := by omega
      have x5b : (1 == n + 1) = false := beq_false_of_ne (by omega)
      have x6 : ¬ 1 = n + 1 + 1 := by omega
      have x6b : (1 == n + 1 + 1) = false := beq_false_of_ne (by omega)
      have x7 : ¬ 1 = n + 1 + 1 + 1 := by omega
      have x7b : (1 == n + 1 + 1 + 1) = false := beq_false_of_ne (by omega)
      have x8 : ¬ 2 = n := by omega
      have x8b : (2 == n) = false := beq_false_of_ne (by omega)
      have x9 : ¬ 2 = n + 1 := by omega
      have x9b : (2 == n + 1) = false := beq_false_of_ne (by omega)
      have x10 : ¬ 2 = n + 1 + 1 := by omega
      have x10b : (2 == n + 1 + 1) = false := beq_false_of_ne (by omega)
      have x11 : ¬ 2 = n + 1 + 1 + 1 := by omega
      have x11b : (2 == n + 1 + 1 + 1) = false := beq_false_of_ne (by omega)
      have x12 : ¬ n = 0 := by omega
      have x12b : (n == 0) = false := beq_false_of_ne (by omega)
      have x13 : ¬ n = 1 := by omega
      have x13b : (n == 1) = false := beq_false_of_ne (by omega)
      have x14 : ¬ n = 2 := by omega
      have x14b : (n == 2) = false := beq_false_of_ne (by omega)
      have x15 : ¬ n = n + 1 := by omega
      have x15b : (n == n + 1) = false := beq_false_of_ne (by omega)
      have x16 : ¬ n = n + 1 + 1 := by omega
      have x16b : (n == n + 1 + 1) = false := beq_false_of_ne (by omega)
      have x17 : ¬ n = n + 1 + 1 + 1 := by omega
      have x17b : (n == n + 1 + 1 + 1) = false := beq_false_of_ne (by omega)
      have x18 : ¬ n + 1 = 0 := by omega
      have x18b : (n + 1 == 0) = false := beq_false_of_ne (by omega)
      have x19 : ¬ n + 1 = 1 := by omega
      have x19b : (n + 1 == 1) = false := beq_false_of_ne (by omega)
      have x20 : ¬ n + 1 = 2 := by omega
      have x20b : (n + 1 == 2) = false := beq_false_of_ne (by omega)
      have x21 : ¬ n + 1 = n := by omega
      have x21b : (n + 1 == n) = false := beq_false_of_ne (by omega)
      have x22 : ¬ n + 1 = n + 1 + 1 := by omega
      have x22b : (n + 1 == n + 1 + 1) = false := beq_false_of_ne (by omega)
      have x23 : ¬ n + 1 = n + 1 + 1 + 1 := by omega
      have x23b : (n + 1 == n + 1 + 1 + 1) = false := beq_false_of_ne (by omega)
      have x24 : ¬ n + 1 + 1 = 0 := by omega
      have x24b : (n + 1 + 1 == 0) = false := beq_false_of_ne (by omega)
      have x25 : ¬ n + 1 + 1 = 1 := by omega
      have x25b : (n + 1 + 1 == 1) = false := beq_false_of_ne (by omega)
      have x26 : ¬ n + 1 + 1 = 2 := by omega
      have x26b : (n + 1 + 1 == 2) = false := beq_false_of_ne (by omega)
      have x27 : ¬ n + 1 + 1 = n := by omega
      have x27b : (n + 1 + 1 == n) = false := beq_false_of_ne (by omega)
      have x28 : ¬ n + 1 + 1 = n + 1 := by omega
      have x28b : (n + 1 + 1 == n + 1) = false := beq_false_of_ne (by omega)
      have x29 : ¬ n + 1 + 1 = n + 1 + 1 + 1 := by omega
      have x29b : (n + 1 + 1 == n + 1 + 1 + 1) = false := beq_false_of_ne (by omega)
      have x30 : ¬ n + 1 + 1 + 1 = 0 := by omega
      have x30b : (n + 1 + 1 + 1 == 0) = false := beq_false_of_ne (by omega)
      have x31 : ¬ n + 1 + 1 + 1 = 1 := by omega
      have x31b : (n + 1 + 1 + 1 == 1) = false := beq_false_of_ne (by omega)
      have x32 : ¬ n + 1 + 1 + 1 = 2 := by omega
      have x32b : (n + 1 + 1 + 1 == 2) = false := beq_false_of_ne (by omega)
      have x33 : ¬ n + 1 + 1 + 1 = n := by omega
      have x33b : (n + 1 + 1 + 1 == n) = false := beq_false_of_ne (by omega)
      have x34 : ¬ n + 1 + 1 + 1 = n + 1 := by omega
      have x34b : (n + 1 + 1 + 1 == n + 1) = false := beq_false_of_ne (by omega)
      have x35 : ¬ n + 1 + 1 + 1 = n + 1 + 1 := by omega
      have x35b : (n + 1 + 1 + 1 == n + 1 + 1) = false := beq_false_of_ne (by omega)
      have z0 : ¬ 0 = b := by omega
      have z0b : (0 == b) = false := beq_false_of_ne (by omega)
      have z1 : ¬ b = 0 := by omega
      have z1b : (b == 0) = false := beq_false_of_ne (by omega)
      have z2 : ¬ 1 = b := by omega
      have z2b : (1 == b) = false := beq_false_of_ne (by omega)
      have z3 : ¬ b = 1 := by omega
      have z3b : (b == 1) = false := beq_false_of_ne (by omega)
      have z4 : ¬ 2 = b := by omega
      have z4b : (2 == b) = false := beq_false_of_ne (by omega)
      have z5 : ¬ b = 2 := by omega
      have z5b : (b == 2) = false := beq_false_of_ne (by omega)
      have z6 : ¬ n = b := by omega
      have z6b : (n == b) = false := beq_false_of_ne (by omega)
      have z7 : ¬ b = n := by omega
      have z7b : (b == n) = false := beq_false_of_ne (by omega)
      have z8 : ¬ n + 1 = b := by omega
      have z8b : (n + 1 == b) = false := beq_false_of_ne (by omega)
      have z9 : ¬ b = n + 1 := by omega
      have z9b : (b == n + 1) = false := beq_false_of_ne (by omega)
      have z10 : ¬ n + 1 + 1 = b := by omega
      have z10b : (n + 1 + 1 == b) = false := beq_false_of_ne (by omega)
      have z11 : ¬ b = n + 1 + 1 := by omega
      have z11b : (b == n + 1 + 1) = false := beq_false_of_ne (by omega)
      have z12 : ¬ n + 1 + 1 + 1 = b := by omega
      have z12b : (n + 1 + 1 + 1 == b) = false := beq_false_of_ne (by omega)
      have z13 : ¬ b = n + 1 + 1 + 1 := by omega
      have z13b : (b == n + 1 + 1 + 1) = false := beq_false_of_ne (by omega)
      have g1 : (bs.length + 1) * 112 ≤ 140737488355328 := by omega
      have g2 : bs.length + 1 ≤ 140737488355328 := by omega
      have g3 : bs.length * 7 ≤ (bs.flatMap entC).length := by rw [entC_len]; exact Nat.le_refl _
      have g4 : cut (bs.flatMap entC) 0 (bs.length * 7) = bs.flatMap entC := by rw [cut, List.drop_zero, List.take_of_length_le (by rw [entC_len]; exact Nat.le_refl _)]
      refine gC1 (wa t1 (wa t2 (wa t5 (wa t20 (wa t21 (wa t22 (wa q0 (wa q2 (wa hkn (wa hlt (wa hkl (wa hsc (wa hcut (wa hle (wa w4 (wa ly (wa oy (wa x0 (wa x0b (wa x1 (wa x1b (wa x2 (wa x2b (wa x3 (wa x3b (wa x4 (wa x4b (wa x5 (wa x5b (wa x6 (wa x6b (wa x7 (wa x7b (wa x8 (wa x8b (wa x9 (wa x9b (wa x10 (wa x10b (wa x11 (wa x11b (wa x12 (wa x12b (wa x13 (wa x13b (wa x14 (wa x14b (wa x15 (wa x15b (wa x16 (wa x16b (wa x17 (wa x17b (wa x18 (wa x18b (wa x19 (wa x19b (wa x20 (wa x20b (wa x21 (wa x21b (wa x22 (wa x22b (wa x23 (wa x23b (wa x24 (wa x24b (wa x25 (wa x25b (wa x26 (wa x26b (wa x27 (wa x27b (wa x28 (wa x28b (wa x29 (wa x29b (wa x30 (wa x30b (wa x31 (wa x31b (wa x32 (wa x32b (wa x33 (wa x33b (wa x34 (wa x34b (wa x35 (wa x35b (wa z0 (wa z0b (wa z1 (wa z1b (wa z2 (wa z2b (wa z3 (wa z3b (wa z4 (wa z4b (wa z5 (wa z5b (wa z6 (wa z6b (wa z7 (wa z7b (wa z8 (wa z8b (wa z9 (wa z9b (wa z10 (wa z10b (wa z11 (wa z11b (wa z12 (wa z12b (wa z13 (wa z13b (wa hb (wa g1 (wa g2 (wa g3 g4))))))))))))))))))))))))))))))))))))))))))))))))))))))))))))))))))))))))))))))))))))))))))))))))))))))))))))))))))))))))) (wa h50 trivial) ?_
      refine ⟨m, by omega, d + 1, bs ++ [n], by omega, by simp only; omega, ?_, ?_, ?_, ?_, ?_, ?_, ?_, ?_, ?_, .osl (n + 1 + 1 + 1) 0 (bs.length + 1), ?_, .inr ⟨n + 1 + 1 + 1, by simp, ?_, by omega, by simp only; omega, ?_⟩⟩
      · simp only [vop, val, argsT, upd_ap, Nat.reduceEqDiff, if_true, if_false, ite_true, ite_false, reduceIte, loadAt, loadA, AV.cells, AV.one, List.all_cons, List.all_nil, ofV, ofCell, plain, List.getElem?_cons_zero, List.getElem?_cons_succ, List.getElem?_toArray, Option.getD_some, Bool.not_true, Bool.not_false, Bool.false_eq_true, Bool.and_true, Bool.true_and, Bool.and_self, Nat.zero_add, Option.map_some, Option.bind_some, List.map_cons, List.map_nil, ev_add, ev_sub, ev_mul, ev_lss, ev_leq, ev_gtr, ev_geq, ev_eql, ev_neq, ev_seql, ev_sneq, ev_sleq, ev_slss, ev_not, ev_min, ev_max, asNat_nat, asNat_zero, asNat_one, asNat_two, asNat_three, vb_len, List.length_cons, List.length_nil, Nat.reduceAdd, Nat.reduceLeDiff, Nat.reduceMul, Int.reduceEq, Int.reduceLT, Int.reduceLE, Int.reduceNeg, Int.reduceAdd, Int.reduceSub, Nat.reduceLT, decide_true, decide_false, not_true_eq_false, not_false_eq_true, and_self, and_true, true_and, storeA, List.take_zero, List.drop_succ_cons, List.drop_zero, List.nil_append, List.append_nil, List.take_succ_cons, List.cons_append, cut_cons, cut_zero, cut_skip, tAt, hHide, hAt, upsAt, List.contains_cons, List.contains_nil, Nat.reduceBEq, Bool.or_true, Bool.true_or, Bool.or_false, Bool.false_or, Bool.or_self, Bool.and_true, Bool.true_and, Bool.and_false, Bool.false_and, beq_self_eq_true (α := Nat), Option.some_beq_some, Option.none_beq_some, Option.some_beq_none, Bool.false_eq_true, List.all_nil, touch, touchB, Nat.sub_self, List.range'_zero, Nat.add_sub_cancel_left, List.range'_one, t1]
      · simp only [vop, val, argsT, upd_ap, Nat.reduceEqDiff, if_true, if_false, ite_true, ite_false, reduceIte, loadAt, loadA, AV.cells, AV.one, List.all_cons, List.all_nil, ofV, ofCell, plain, List.getElem?_cons_zero, List.getElem?_cons_succ, List.getElem?_toArray, Option.getD_some, Bool.not_true, Bool.not_false, Bool.false_eq_true, Bool.and_true, Bool.true_and, Bool.and_self, Nat.zero_add, Option.map_some, Option.bind_some, List.map_cons, List.map_nil, ev_add, ev_sub, ev_mul, ev_lss, ev_leq, ev_gtr, ev_geq, ev_eql, ev_neq, ev_seql, ev_sneq, ev_sleq, ev_slss, ev_not, ev_min, ev_max, asNat_nat, asNat_zero, asNat_one, asNat_two, asNat_three, vb_len, List.length_cons, List.length_nil, Nat.reduceAdd, Nat.reduceLeDiff, Nat.reduceMul, Int.reduceEq, Int.reduceLT, Int.reduceLE, Int.reduceNeg, Int.reduceAdd, Int.reduceSub, Nat.reduceLT, decide_true, decide_false, not_true_eq_false, not_false_eq_true, and_self, and_true, true_and, storeA, List.take_zero, List.drop_succ_cons, List.drop_zero, List.nil_append, List.append_nil, List.take_succ_cons, List.cons_append, cut_cons, cut_zero, cut_skip, tAt, hHide, hAt, upsAt, List.contains_cons, List.contains_nil, Nat.reduceBEq, Bool.or_true, Bool.true_or, Bool.or_false, Bool.false_or, Bool.or_self, Bool.and_true, Bool.true_and, Bool.and_false, Bool.false_and, beq_self_eq_true (α := Nat), Option.some_beq_some, Option.none_beq_some, Option.some_beq_none, Bool.false_eq_true, List.all_nil, touch, touchB, Nat.sub_self, List.range'_zero, Nat.add_sub_cancel_left, List.range'_one, t2]
      · simp only [vop, val, argsT, upd_ap, Nat.reduceEqDiff, if_true, if_false, ite_true, ite_false, reduceIte, loadAt, loadA, AV.cells, AV.one, List.all_cons, List.all_nil, ofV, ofCell, plain, List.getElem?_cons_zero, List.getElem?_cons_succ, List.getElem?_toArray, Option.getD_some, Bool.not_true, Bool.not_false, Bool.false_eq_true, Bool.and_true, Bool.true_and, Bool.and_self, Nat.zero_add, Option.map_some, Option.bind_some, List.map_cons, List.map_nil, ev_add, ev_sub, ev_mul, ev_lss, ev_leq, ev_gtr, ev_geq, ev_eql, ev_neq, ev_seql, ev_sneq, ev_sleq, ev_slss, ev_not, ev_min, ev_max, asNat_nat, asNat_zero, asNat_one, asNat_two, asNat_three, vb_len, List.length_cons, List.length_nil, Nat.reduceAdd, Nat.reduceLeDiff, Nat.reduceMul, Int.reduceEq, Int.reduceLT, Int.reduceLE, Int.reduceNeg, Int.reduceAdd, Int.reduceSub, Nat.reduceLT, decide_true, decide_false, not_true_eq_false, not_false_eq_true, and_self, and_true, true_and, storeA, List.take_zero, List.drop_succ_cons, List.drop_zero, List.nil_append, List.append_nil, List.take_succ_cons, List.cons_append, cut_cons, cut_zero, cut_skip, tAt, hHide, hAt, upsAt, List.contains_cons, List.contains_nil, Nat.reduceBEq, Bool.or_true, Bool.true_or, Bool.or_false, Bool.false_or, Bool.or_self, Bool.and_true, Bool.true_and, Bool.and_false, Bool.false_and, beq_self_eq_true (α := Nat), Option.some_beq_some, Option.none_beq_some, Option.some_beq_none, Bool.false_eq_true, List.all_nil, touch, touchB, Nat.sub_self, List.range'_zero, Nat.add_sub_cancel_left, List.range'_one, t5]
      · simp only [vop, val, argsT, upd_ap, Nat.reduceEqDiff, if_true, if_false, ite_true, ite_false, reduceIte, loadAt, loadA, AV.cells, AV.one, List.all_cons, List.all_nil, ofV, ofCell, plain, List.getElem?_cons_zero, List.getElem?_cons_succ, List.getElem?_toArray, Option.getD_some, Bool.not_true, Bool.not_false, Bool.false_eq_true, Bool.and_true, Bool.true_and, Bool.and_self, Nat.zero_add, Option.map_some, Option.bind_some, List.map_cons, List.map_nil, ev_add, ev_sub, ev_mul, ev_lss, ev_leq, ev_gtr, ev_geq, ev_eql, ev_neq, ev_seql, ev_sneq, ev_sleq, ev_slss, ev_not, ev_min, ev_max, asNat_nat, asNat_zero, asNat_one, asNat_two, asNat_three, vb_len, List.length_cons, List.length_nil, Nat.reduceAdd, Nat.reduceLeDiff, Nat.reduceMul, Int.reduceEq, Int.reduceLT, Int.reduceLE, Int.reduceNeg, Int.reduceAdd, Int.reduceSub, Nat.reduceLT, decide_true, decide_false, not_true_eq_false, not_false_eq_true, and_self, and_true, true_and, storeA, List.take_zero, List.drop_succ_cons, List.drop_zero, List.nil_append, List.append_nil, List.take_succ_cons, List.cons_append, cut_cons, cut_zero, cut_skip, tAt, hHide, hAt, upsAt, List.contains_cons, List.contains_nil, Nat.reduceBEq, Bool.or_true, Bool.true_or, Bool.or_false, Bool.false_or, Bool.or_self, Bool.and_true, Bool.true_and, Bool.and_false, Bool.false_and, beq_self_eq_true (α := Nat), Option.some_beq_some, Option.none_beq_some, Option.some_beq_none, Bool.false_eq_true, List.all_nil, touch, touchB, Nat.sub_self, List.range'_zero, Nat.add_sub_cancel_left, List.range'_one, t20]
      · simp only [vop, val, argsT, upd_ap, Nat.reduceEqDiff, if_true, if_false, ite_true, ite_false, reduceIte, loadAt, loadA, AV.cells, AV.one, List.all_cons, List.all_nil, ofV, ofCell, plain, List.getElem?_cons_zero, List.getElem?_cons_succ, List.getElem?_toArray, Option.getD_some, Bool.not_true, Bool.not_false, Bool.false_eq_true, Bool.and_true, Bool.true_and, Bool.and_self, Nat.zero_add, Option.map_some, Option.bind_some, List.map_cons, List.map_nil, ev_add, ev_sub, ev_mul, ev_lss, ev_leq, ev_gtr, ev_geq, ev_eql, ev_neq, ev_seql, ev_sneq, ev_sleq, ev_slss, ev_not, ev_min, ev_max, asNat_nat, asNat_zero, asNat_one, asNat_two, asNat_three, vb_len, List.length_cons, List.length_nil, Nat.reduceAdd, Nat.reduceLeDiff, Nat.reduceMul, Int.reduceEq, Int.reduceLT, Int.reduceLE, Int.reduceNeg, Int.reduceAdd, Int.reduceSub, Nat.reduceLT, decide_true, decide_false, not_true_eq_false, not_false_eq_true, and_self, and_true, true_and, storeA, List.take_zero, List.drop_succ_cons, List.drop_zero, List.nil_append, List.append_nil, List.take_succ_cons, List.cons_append, cut_cons, cut_zero, cut_skip, tAt, hHide, hAt, upsAt, List.contains_cons, List.contains_nil, Nat.reduceBEq, Bool.or_true, Bool.true_or, Bool.or_false, Bool.false_or, Bool.or_self, Bool.and_true, Bool.true_and, Bool.and_false, Bool.false_and, beq_self_eq_true (α := Nat), Option.some_beq_some, Option.none_beq_some, Option.some_beq_none, Bool.false_eq_true, List.all_nil, touch, touchB, Nat.sub_self, List.range'_zero, Nat.add_sub_cancel_left, List.range'_one, t21]
      · simp [upd_ap]
      · simp only [vop, val, argsT, upd_ap, Nat.reduceEqDiff, if_true, if_false, ite_true, ite_false, reduceIte, loadAt, loadA, AV.cells, AV.one, List.all_cons, List.all_nil, ofV, ofCell, plain, List.getElem?_cons_zero, List.getElem?_cons_succ, List.getElem?_toArray, Option.getD_some, Bool.not_true, Bool.not_false, Bool.false_eq_true, Bool.and_true, Bool.true_and, Bool.and_self, Nat.zero_add, Option.map_some, Option.bind_some, List.map_cons, List.map_nil, ev_add, ev_sub, ev_mul, ev_lss, ev_leq, ev_gtr, ev_geq, ev_eql, ev_neq, ev_seql, ev_sneq, ev_sleq, ev_slss, ev_not, ev_min, ev_max, asNat_nat, asNat_zero, asNat_one, asNat_two, asNat_three, vb_len, List.length_cons, List.length_nil, Nat.reduceAdd, Nat.reduceLeDiff, Nat.reduceMul, Int.reduceEq, Int.reduceLT, Int.reduceLE, Int.reduceNeg, Int.reduceAdd, Int.reduceSub, Nat.reduceLT, decide_true, decide_false, not_true_eq_false, not_false_eq_true, and_self, and_true, true_and, storeA, List.take_zero, List.drop_succ_cons, List.drop_zero, List.nil_append, List.append_nil, List.take_succ_cons, List.cons_append, cut_cons, cut_zero, cut_skip, tAt, hHide, hAt, upsAt, List.contains_cons, List.contains_nil, Nat.reduceBEq, Bool.or_true, Bool.true_or, Bool.or_false, Bool.false_or, Bool.or_self, Bool.and_true, Bool.true_and, Bool.and_false, Bool.false_and, beq_self_eq_true (α := Nat), Option.some_beq_some, Option.none_beq_some, Option.some_beq_none, Bool.false_eq_true, List.all_nil, touch, touchB, Nat.sub_self, List.range'_zero, Nat.add_sub_cancel_left, List.range'_one, x0, x0b, x1, x1b, x2, x2b, x3, x3b, x4, x4b, x5, x5b, x6, x6b, x7, x7b, x8, x8b, x9, x9b, x10, x10b, x11, x11b, x12, x12b, x13, x13b, x14, x14b, x15, x15b, x16, x16b, x17, x17b, x18, x18b, x19, x19b, x20, x20b, x21, x21b, x22, x22b, x23, x23b, x24, x24b, x25, x25b, x26, x26b, x27, x27b, x28, x28b, x29, x29b, x30, x30b, x31, x31b, x32, x32b, x33, x33b, x34, x34b, x35, x35b, z0, z0b, z1, z1b, z2, z2b, z3, z3b, z4, z4b, z5, z5b, z6, z6b, z7, z7b, z8, z8b, z9, z9b, z10, z10b, z11, z11b, z12, z12b, z13, z13b, q0]
      · simp only [vop, val, argsT, upd_ap, Nat.reduceEqDiff, if_true, if_false, ite_true, ite_false, reduceIte, loadAt, loadA, AV.cells, AV.one, List.all_cons, List.all_nil, ofV, ofCell, plain, List.getElem?_cons_zero, List.getElem?_cons_succ, List.getElem?_toArray, Option.getD_some, Bool.not_true, Bool.not_false, Bool.false_eq_true, Bool.and_true, Bool.true_and, Bool.and_self, Nat.zero_add, Option.map_some, Option.bind_some, List.map_cons, List.map_nil, ev_add, ev_sub, ev_mul, ev_lss, ev_leq, ev_gtr, ev_geq, ev_eql, ev_neq, ev_seql, ev_sneq, ev_sleq, ev_slss, ev_not, ev_min, ev_max, asNat_nat, asNat_zero, asNat_one, asNat_two, asNat_three, vb_len, List.length_cons, List.length_nil, Nat.reduceAdd, Nat.reduceLeDiff, Nat.reduceMul, Int.reduceEq, Int.reduceLT, Int.reduceLE, Int.reduceNeg, Int.reduceAdd, Int.reduceSub, Nat.reduceLT, decide_true, decide_false, not_true_eq_false, not_false_eq_true, and_self, and_true, true_and, storeA, List.take_zero, List.drop_succ_cons, List.drop_zero, List.nil_append, List.append_nil, List.take_succ_cons, List.cons_append, cut_cons, cut_zero, cut_skip, tAt, hHide, hAt, upsAt, List.contains_cons, List.contains_nil, Nat.reduceBEq, Bool.or_true, Bool.true_or, Bool.or_false, Bool.false_or, Bool.or_self, Bool.and_true, Bool.true_and, Bool.and_false, Bool.false_and, beq_self_eq_true (α := Nat), Option.some_beq_some, Option.none_beq_some, Option.some_beq_none, Bool.false_eq_true, List.all_nil, touch, touchB, Nat.sub_self, List.range'_zero, Nat.add_sub_cancel_left, List.range'_one, x0, x0b, x1, x1b, x2, x2b, x3, x3b, x4, x4b, x5, x5b, x6, x6b, x7, x7b, x8, x8b, x9, x9b, x10, x10b, x11, x11b, x12, x12b, x13, x13b, x14, x14b, x15, x15b, x16, x16b, x17, x17b, x18, x18b, x19, x19b, x20, x20b, x21, x21b, x22, x22b, x23, x23b, x24, x24b, x25, x25b, x26, x26b, x27, x27b, x28, x28b, x29, x29b, x30, x30b, x31, x31b, x32, x32b, x33, x33b, x34, x34b, x35, x35b, z0, z0b, z1, z1b, z2, z2b, z3, z3b, z4, z4b, z5, z5b, z6, z6b, z7, z7b, z8, z8b, z9, z9b, z10, z10b, z11, z11b, z12, z12b, z13, z13b, r1]
      · rw [htk]
        refine Ents.snoc ⟨?_, ?_⟩ (by omega) (by simp only; omega) (Ents.mono (by simp only; omega) he fun c hc => ?_)
        · simp only [vop, val, argsT, upd_ap, Nat.reduceEqDiff, if_true, if_false, ite_true, ite_false, reduceIte, loadAt, loadA, AV.cells, AV.one, List.all_cons, List.all_nil, ofV, ofCell, plain, List.getElem?_cons_zero, List.getElem?_cons_succ, List.getElem?_toArray, Option.getD_some, Bool.not_true, Bool.not_false, Bool.false_eq_true, Bool.and_true, Bool.true_and, Bool.and_self, Nat.zero_add, Option.map_some, Option.bind_some, List.map_cons, List.map_nil, ev_add, ev_sub, ev_mul, ev_lss, ev_leq, ev_gtr, ev_geq, ev_eql, ev_neq, ev_seql, ev_sneq, ev_sleq, ev_slss, ev_not, ev_min, ev_max, asNat_nat, asNat_zero, asNat_one, asNat_two, asNat_three, vb_len, List.length_cons, List.length_nil, Nat.reduceAdd, Nat.reduceLeDiff, Nat.reduceMul, Int.reduceEq, Int.reduceLT, Int.reduceLE, Int.reduceNeg, Int.reduceAdd, Int.reduceSub, Nat.reduceLT, decide_true, decide_false, not_true_eq_false, not_false_eq_true, and_self, and_true, true_and, storeA, List.take_zero, List.drop_succ_cons, List.drop_zero, List.nil_append, List.append_nil, List.take_succ_cons, List.cons_append, cut_cons, cut_zero, cut_skip, tAt, hHide, hAt, upsAt, List.contains_cons, List.contains_nil, Nat.reduceBEq, Bool.or_true, Bool.true_or, Bool.or_false, Bool.false_or, Bool.or_self, Bool.and_true, Bool.true_and, Bool.and_false, Bool.false_and, beq_self_eq_true (α := Nat), Option.some_beq_some, Option.none_beq_some, Option.some_beq_none, Bool.false_eq_true, List.all_nil, touch, touchB, Nat.sub_self, List.range'_zero, Nat.add_sub_cancel_left, List.range'_one, x0, x0b, x1, x1b, x2, x2b, x3, x3b, x4, x4b, x5, x5b, x6, x6b, x7, x7b, x8, x8b, x9, x9b, x10, x10b, x11, x11b, x12, x12b, x13, x13b, x14, x14b, x15, x15b, x16, x16b, x17, x17b, x18, x18b, x19, x19b, x20, x20b, x21, x21b, x22, x22b, x23, x23b, x24, x24b, x25, x25b, x26, x26b, x27, x27b, x28, x28b, x29, x29b, x30, x30b, x31, x31b, x32, x32b, x33, x33b, x34, x34b, x35, x35b, z0, z0b, z1, z1b, z2, z2b, z3, z3b, z4, z4b, z5, z5b, z6, z6b, z7, z7b, z8, z8b, z9, z9b, z10, z10b, z11, z11b, z12, z12b, z13, z13b]
          rfl
        · simp only [vop, val, argsT, upd_ap, Nat.reduceEqDiff, if_true, if_false, ite_true, ite_false, reduceIte, loadAt, loadA, AV.cells, AV.one, List.all_cons, List.all_nil, ofV, ofCell, plain, List.getElem?_cons_zero, List.getElem?_cons_succ, List.getElem?_toArray, Option.getD_some, Bool.not_true, Bool.not_false, Bool.false_eq_true, Bool.and_true, Bool.true_and, Bool.and_self, Nat.zero_add, Option.map_some, Option.bind_some, List.map_cons, List.map_nil, ev_add, ev_sub, ev_mul, ev_lss, ev_leq, ev_gtr, ev_geq, ev_eql, ev_neq, ev_seql, ev_sneq, ev_sleq, ev_slss, ev_not, ev_min, ev_max, asNat_nat, asNat_zero, asNat_one, asNat_two, asNat_three, vb_len, List.length_cons, List.length_nil, Nat.reduceAdd, Nat.reduceLeDiff, Nat.reduceMul, Int.reduceEq, Int.reduceLT, Int.reduceLE, Int.reduceNeg, Int.reduceAdd, Int.reduceSub, Nat.reduceLT, decide_true, decide_false, not_true_eq_false, not_false_eq_true, and_self, and_true, true_and, storeA, List.take_zero, List.drop_succ_cons, List.drop_zero, List.nil_append, List.append_nil, List.take_succ_cons, List.cons_append, cut_cons, cut_zero, cut_skip, tAt, hHide, hAt, upsAt, List.contains_cons, List.contains_nil, Nat.reduceBEq, Bool.or_true, Bool.true_or, Bool.or_false, Bool.false_or, Bool.or_self, Bool.and_true, Bool.true_and, Bool.and_false, Bool.false_and, beq_self_eq_true (α := Nat), Option.some_beq_some, Option.none_beq_some, Option.some_beq_none, Bool.false_eq_true, List.all_nil, touch, touchB, Nat.sub_self, List.range'_zero, Nat.add_sub_cancel_left, List.range'_one, x0, x0b, x1, x1b, x2, x2b, x3, x3b, x4, x4b, x5, x5b, x6, x6b, x7, x7b, x8, x8b, x9, x9b, x10, x10b, x11, x11b, x12, x12b, x13, x13b, x14, x14b, x15, x15b, x16, x16b, x17, x17b, x18, x18b, x19, x19b, x20, x20b, x21, x21b, x22, x22b, x23, x23b, x24, x24b, x25, x25b, x26, x26b, x27, x27b, x28, x28b, x29, x29b, x30, x30b, x31, x31b, x32, x32b, x33, x33b, x34, x34b, x35, x35b, z0, z0b, z1, z1b, z2, z2b, z3, z3b, z4, z4b, z5, z5b, z6, z6b, z7, z7b, z8, z8b, z9, z9b, z10, z10b, z11, z11b, z12, z12b, z13, z13b, ly]
          first | rfl | (show some (Blk.cells (enc (textV s) ++ (enc y ++ [])) 7 false) = _; rw [List.append_nil])
        · obtain ⟨c1, c2⟩ := he.mem c hc
          obtain ⟨c3, c4⟩ := hbs c hc
          have y0 : ¬ c = 2 := by omega
          have y1 : ¬ c + 1 = 2 := by omega
          have y2 : ¬ c = n := by omega
          have y3 : ¬ c + 1 = n := by omega
          have y4 : ¬ c = n + 1 := by omega
          have y5 : ¬ c + 1 = n + 1 := by omega
          have y6 : ¬ c = n + 1 + 1 := by omega
          have y7 : ¬ c + 1 = n + 1 + 1 := by omega
          have y8 : ¬ c = n + 1 + 1 + 1 := by omega
          have y9 : ¬ c + 1 = n + 1 + 1 + 1 := by omega
          have y10 : ¬ c = b := by omega
          have y11 : ¬ c + 1 = b := by omega
          constructor
          · simp only [vop, val, argsT, upd_ap, Nat.reduceEqDiff, if_true, if_false, ite_true, ite_false, reduceIte, loadAt, loadA, AV.cells, AV.one, List.all_cons, List.all_nil, ofV, ofCell, plain, List.getElem?_cons_zero, List.getElem?_cons_succ, List.getElem?_toArray, Option.getD_some, Bool.not_true, Bool.not_false, Bool.false_eq_true, Bool.and_true, Bool.true_and, Bool.and_self, Nat.zero_add, Option.map_some, Option.bind_some, List.map_cons, List.map_nil, ev_add, ev_sub, ev_mul, ev_lss, ev_leq, ev_gtr, ev_geq, ev_eql, ev_neq, ev_seql, ev_sneq, ev_sleq, ev_slss, ev_not, ev_min, ev_max, asNat_nat, asNat_zero, asNat_one, asNat_two, asNat_three, vb_len, List.length_cons, List.length_nil, Nat.reduceAdd, Nat.reduceLeDiff, Nat.reduceMul, Int.reduceEq, Int.reduceLT, Int.reduceLE, Int.reduceNeg, Int.reduceAdd, Int.reduceSub, Nat.reduceLT, decide_true, decide_false, not_true_eq_false, not_false_eq_true, and_self, and_true, true_and, storeA, List.take_zero, List.drop_succ_cons, List.drop_zero, List.nil_append, List.append_nil, List.take_succ_cons, List.cons_append, cut_cons, cut_zero, cut_skip, tAt, hHide, hAt, upsAt, List.contains_cons, List.contains_nil, Nat.reduceBEq, Bool.or_true, Bool.true_or, Bool.or_false, Bool.false_or, Bool.or_self, Bool.and_true, Bool.true_and, Bool.and_false, Bool.false_and, beq_self_eq_true (α := Nat), Option.some_beq_some, Option.none_beq_some, Option.some_beq_none, Bool.false_eq_true, List.all_nil, touch, touchB, Nat.sub_self, List.range'_zero, Nat.add_sub_cancel_left, List.range'_one, x0, x0b, x1, x1b, x2, x2b, x3, x3b, x4, x4b, x5, x5b, x6, x6b, x7, x7b, x8, x8b, x9, x9b, x10, x10b, x11, x11b, x12, x12b, x13, x13b, x14, x14b, x15, x15b, x16, x16b, x17, x17b, x18, x18b, x19, x19b, x20, x20b, x21, x21b, x22, x22b, x23, x23b, x24, x24b, x25, x25b, x26, x26b, x27, x27b, x28, x28b, x29, x29b, x30, x30b, x31, x31b, x32, x32b, x33, x33b, x34, x34b, x35, x35b, z0, z0b, z1, z1b, z2, z2b, z3, z3b, z4, z4b, z5, z5b, z6, z6b, z7, z7b, z8, z8b, z9, z9b, z10, z10b, z11, z11b, z12, z12b, z13, z13b, y0, y1, y2, y3, y4, y5, y6, y7, y8, y9, y10, y11]
          · simp only [vop, val, argsT, upd_ap, Nat.reduceEqDiff, if_true, if_false, ite_true, ite_false, reduceIte, loadAt, loadA, AV.cells, AV.one, List.all_cons, List.all_nil, ofV, ofCell, plain, List.getElem?_cons_zero, List.getElem?_cons_succ, List.getElem?_toArray, Option.getD_some, Bool.not_true, Bool.not_false, Bool.false_eq_true, Bool.and_true, Bool.true_and, Bool.and_self, Nat.zero_add, Option.map_some, Option.bind_some, List.map_cons, List.map_nil, ev_add, ev_sub, ev_mul, ev_lss, ev_leq, ev_gtr, ev_geq, ev_eql, ev_neq, ev_seql, ev_sneq, ev_sleq, ev_slss, ev_not, ev_min, ev_max, asNat_nat, asNat_zero, asNat_one, asNat_two, asNat_three, vb_len, List.length_cons, List.length_nil, Nat.reduceAdd, Nat.reduceLeDiff, Nat.reduceMul, Int.reduceEq, Int.reduceLT, Int.reduceLE, Int.reduceNeg, Int.reduceAdd, Int.reduceSub, Nat.reduceLT, decide_true, decide_false, not_true_eq_false, not_false_eq_true, and_self, and_true, true_and, storeA, List.take_zero, List.drop_succ_cons, List.drop_zero, List.nil_append, List.append_nil, List.take_succ_cons, List.cons_append, cut_cons, cut_zero, cut_skip, tAt, hHide, hAt, upsAt, List.contains_cons, List.contains_nil, Nat.reduceBEq, Bool.or_true, Bool.true_or, Bool.or_false, Bool.false_or, Bool.or_self, Bool.and_true, Bool.true_and, Bool.and_false, Bool.false_and, beq_self_eq_true (α := Nat), Option.some_beq_some, Option.none_beq_some, Option.some_beq_none, Bool.false_eq_true, List.all_nil, touch, touchB, Nat.sub_self, List.range'_zero, Nat.add_sub_cancel_left, List.range'_one, x0, x0b, x1, x1b, x2, x2b, x3, x3b, x4, x4b, x5, x5b, x6, x6b, x7, x7b, x8, x8b, x9, x9b, x10, x10b, x11, x11b, x12, x12b, x13, x13b, x14, x14b, x15, x15b, x16, x16b, x17, x17b, x18, x18b, x19, x19b, x20, x20b, x21, x21b, x22, x22b, x23, x23b, x24, x24b, x25, x25b, x26, x26b, x27, x27b, x28, x28b, x29, x29b, x30, x30b, x31, x31b, x32, x32b, x33, x33b, x34, x34b, x35, x35b, z0, z0b, z1, z1b, z2, z2b, z3, z3b, z4, z4b, z5, z5b, z6, z6b, z7, z7b, z8, z8b, z9, z9b, z10, z10b, z11, z11b, z12, z12b, z13, z13b, y0, y1, y2, y3, y4, y5, y6, y7, y8, y9, y10, y11]
      · simp only [vop, val, argsT, upd_ap, Nat.reduceEqDiff, if_true, if_false, ite_true, ite_false, reduceIte, loadAt, loadA, AV.cells, AV.one, List.all_cons, List.all_nil, ofV, ofCell, plain, List.getElem?_cons_zero, List.getElem?_cons_succ, List.getElem?_toArray, Option.getD_some, Bool.not_true, Bool.not_false, Bool.false_eq_true, Bool.and_true, Bool.true_and, Bool.and_self, Nat.zero_add, Option.map_some, Option.bind_some, List.map_cons, List.map_nil, ev_add, ev_sub, ev_mul, ev_lss, ev_leq, ev_gtr, ev_geq, ev_eql, ev_neq, ev_seql, ev_sneq, ev_sleq, ev_slss, ev_not, ev_min, ev_max, asNat_nat, asNat_zero, asNat_one, asNat_two, asNat_three, vb_len, List.length_cons, List.length_nil, Nat.reduceAdd, Nat.reduceLeDiff, Nat.reduceMul, Int.reduceEq, Int.reduceLT, Int.reduceLE, Int.reduceNeg, Int.reduceAdd, Int.reduceSub, Nat.reduceLT, decide_true, decide_false, not_true_eq_false, not_false_eq_true, and_self, and_true, true_and, storeA, List.take_zero, List.drop_succ_cons, List.drop_zero, List.nil_append, List.append_nil, List.take_succ_cons, List.cons_append, cut_cons, cut_zero, cut_skip, tAt, hHide, hAt, upsAt, List.contains_cons, List.contains_nil, Nat.reduceBEq, Bool.or_true, Bool.true_or, Bool.or_false, Bool.false_or, Bool.or_self, Bool.and_true, Bool.true_and, Bool.and_false, Bool.false_and, beq_self_eq_true (α := Nat), Option.some_beq_some, Option.none_beq_some, Option.some_beq_none, Bool.false_eq_true, List.all_nil, touch, touchB, Nat.sub_self, List.range'_zero, Nat.add_sub_cancel_left, List.range'_one, x0, x0b, x1, x1b, x2, x2b, x3, x3b, x4, x4b, x5, x5b, x6, x6b, x7, x7b, x8, x8b, x9, x9b, x10, x10b, x11, x11b, x12, x12b, x13, x13b, x14, x14b, x15, x15b, x16, x16b, x17, x17b, x18, x18b, x19, x19b, x20, x20b, x21, x21b, x22, x22b, x23, x23b, x24, x24b, x25, x25b, x26, x26b, x27, x27b, x28, x28b, x29, x29b, x30, x30b, x31, x31b, x32, x32b, x33, x33b, x34, x34b, x35, x35b, z0, z0b, z1, z1b, z2, z2b, z3, z3b, z4, z4b, z5, z5b, z6, z6b, z7, z7b, z8, z8b, z9, z9b, z10, z10b, z11, z11b, z12, z12b, z13, z13b, q2]
      · simp only [vop, val, argsT, upd_ap, Nat.reduceEqDiff, if_true, if_false, ite_true, ite_false, reduceIte, loadAt, loadA, AV.cells, AV.one, List.all_cons, List.all_nil, ofV, ofCell, plain, List.getElem?_cons_zero, List.getElem?_cons_succ, List.getElem?_toArray, Option.getD_some, Bool.not_true, Bool.not_false, Bool.false_eq_true, Bool.and_true, Bool.true_and, Bool.and_self, Nat.zero_add, Option.map_some, Option.bind_some, List.map_cons, List.map_nil, ev_add, ev_sub, ev_mul, ev_lss, ev_leq, ev_gtr, ev_geq, ev_eql, ev_neq, ev_seql, ev_sneq, ev_sleq, ev_slss, ev_not, ev_min, ev_max, asNat_nat, asNat_zero, asNat_one, asNat_two, asNat_three, vb_len, List.length_cons, List.length_nil, Nat.reduceAdd, Nat.reduceLeDiff, Nat.reduceMul, Int.reduceEq, Int.reduceLT, Int.reduceLE, Int.reduceNeg, Int.reduceAdd, Int.reduceSub, Nat.reduceLT, decide_true, decide_false, not_true_eq_false, not_false_eq_true, and_self, and_true, true_and, storeA, List.take_zero, List.drop_succ_cons, List.drop_zero, List.nil_append, List.append_nil, List.take_succ_cons, List.cons_append, cut_cons, cut_zero, cut_skip, tAt, hHide, hAt, upsAt, List.contains_cons, List.contains_nil, Nat.reduceBEq, Bool.or_true, Bool.true_or, Bool.or_false, Bool.false_or, Bool.or_self, Bool.and_true, Bool.true_and, Bool.and_false, Bool.false_and, beq_self_eq_true (α := Nat), Option.some_beq_some, Option.none_beq_some, Option.some_beq_none, Bool.false_eq_true, List.all_nil, touch, touchB, Nat.sub_self, List.range'_zero, Nat.add_sub_cancel_left, List.range'_one, x0, x0b, x1, x1b, x2, x2b, x3, x3b, x4, x4b, x5, x5b, x6, x6b, x7, x7b, x8, x8b, x9, x9b, x10, x10b, x11, x11b, x12, x12b, x13, x13b, x14, x14b, x15, x15b, x16, x16b, x17, x17b, x18, x18b, x19, x19b, x20, x20b, x21, x21b, x22, x22b, x23, x23b, x24, x24b, x25, x25b, x26, x26b, x27, x27b, x28, x28b, x29, x29b, x30, x30b, x31, x31b, x32, x32b, x33, x33b, x34, x34b, x35, x35b, z0, z0b, z1, z1b, z2, z2b, z3, z3b, z4, z4b, z5, z5b, z6, z6b, z7, z7b, z8, z8b, z9, z9b, z10, z10b, z11, z11b, z12, z12b, z13, z13b]
        rw [List.flatMap_append]
        rfl
      · intro c hc
        rcases List.mem_append.1 hc with hc | hc
        · have := he.mem c hc
          omega
        · rw [List.mem_singleton.1 hc]
          omega
def entOf (v : JV) : JV × Int := if ¬ chk v = 0 then (zeroV, chk v) else if v.kind = 6 then whole (.mk 5 false [] 0 ⟨#[]⟩ ((v.keys.zip v.list).map entV) []) 0 else (zeroV, 41)
set_option maxHeartbeats 4000000 in
set_option maxRecDepth 100000 in
theorem pc21 (G : Nat → Option (List AV)) : (v : JV) → Fit v → Pc (Cf G) 21 [.agg (enc v)] (encE (entOf v))
  | .mk k ng cf ex t l ks => fun hfit => by
    have h1 := pc44 G (.mk k ng cf ex t l ks) hfit
    by_cases hc : chk (.mk k ng cf ex t l ks) = 0
    · have ho := chk_ownE hc
      obtain ⟨f1, f2, f3, f4, f5, f6⟩ := shape_of ho
      have hs := own_saidB ho
      by_cases hk : k = 6
      · subst hk
        obtain ⟨rfl, rfl, rfl⟩ := f1 (by omega)
        obtain rfl := f2 (by omega)
        rw [show entOf (.mk 6 false [] 0 ⟨#[]⟩ l ks) = whole (.mk 5 false [] 0 ⟨#[]⟩ ((ks.zip l).map entV) []) 0 by unfold entOf; rw [if_neg (by simp [hc])]; exact if_pos rfl]
        exact pc21O G l ks hfit hc (f5 rfl) hs.2.1 (ent_fit hfit.2 hfit.1.nkey hs.2.1)
      · rw [show entOf (.mk k ng cf ex t l ks) = (zeroV, 41) by unfold entOf; rw [if_neg (by simp [hc])]; exact if_neg hk]
        rw [hc] at h1
        simp only [zeroV, encE, enc, encs, u32s, strs, List.map_nil, List.length_nil] at h1 ⊢
        refine Pc_of (Gf_enter (C := Cf G) Tryz.func21 rfl ok21 (Nat.le_of_ble_eq_true rfl) ?_)
        simp only [Tryz.f21, Option.getD_some]
        refine wC1 hk (wa h1 trivial) ?_
        simp only [one1, frz_t, frz_a, mapF, frz_s, frz_l, frz_n, Option.map_some, List.append_nil]
        rfl
    · rw [show entOf (.mk k ng cf ex t l ks) = (zeroV, chk (.mk k ng cf ex t l ks)) by unfold entOf; rw [if_pos hc]]
      generalize chk (.mk k ng cf ex t l ks) = c at *
      simp only [zeroV, encE, enc, encs, u32s, strs, List.map_nil, List.length_nil] at h1 ⊢
      refine Pc_of (Gf_enter (C := Cf G) Tryz.func21 rfl ok21 (Nat.le_of_ble_eq_true rfl) ?_)
      simp only [Tryz.f21, Option.getD_some]
      refine wC1 hc (wa h1 trivial) ?_
      simp only [one1, frz_t, frz_a, mapF, frz_s, frz_l, frz_n, Option.map_some, List.append_nil]
      rfl
end Go.Proofs.Bv
namespace Go.Proofs.Bv
open Go
def sumS : List JV → Int
  | [] => 0
  | x :: r => size x + sumS r
theorem sumS_nn : (l : List JV) → 0 ≤ sumS l
  | [] => by simp [sumS]
  | x :: r => by
    have := size_rng x
    have := sumS_nn r
    simp only [sumS]
    omega
theorem sumS_app : (a b : List JV) → sumS (a ++ b) = sumS a + sumS b
  | [], b => by simp [sumS]
  | x :: a, b => by simp only [List.cons_append, sumS, sumS_app a b]; omega
theorem sumS_rev : (l : List JV) → sumS l.reverse = sumS l
  | [] => rfl
  | x :: r => by rw [List.reverse_cons, sumS_app, sumS_rev r]; simp only [sumS]; omega
theorem sizes_sum : (l : List JV) → (n : Int) → (sizes l n < 1048576 → sizes l n = n + sumS l) ∧ (n + sumS l < 1048576 → sizes l n = n + sumS l)
  | [], n => by simp [sizes, sumS]
  | x :: r, n => by
    have h1 := size_rng x
    have h2 := sumS_nn r
    obtain ⟨i1, i2⟩ := sizes_sum r (n + size x)
    simp only [sizes, sumS]
    split
    · constructor <;> intro h <;> omega
    · exact ⟨fun h => by rw [i1 h]; omega, fun h => by rw [i2 (by omega)]; omega⟩
theorem deeps_le (left B : Int) : (l : List JV) → (a : Int) → a ≤ B → (∀ x ∈ l, deep x left ≤ B) → deeps l left a ≤ B
  | [], a, h, _ => by simpa [deeps] using h
  | x :: r, a, h, hx => by
    simp only [deeps]
    have := hx x (by simp)
    exact deeps_le left B r _ (by omega) fun y hy => hx y (List.mem_cons_of_mem _ hy)
theorem firstErr_of : (l : List JV) → (∀ x ∈ l, own x = 0) → firstErr l = 0
  | [], _ => rfl
  | x :: r, h => by
    simp only [firstErr]
    rw [if_pos (h x (by simp))]
    exact firstErr_of r fun y hy => h y (List.mem_cons_of_mem _ hy)
theorem pres_mem : {l : List JV} → {x : JV} → x ∈ pres l → ∃ y ∈ l, x ∈ pre y
  | y :: l, x, h => by
    simp only [pres, List.mem_append] at h
    rcases h with h | h
    · exact ⟨y, by simp, h⟩
    · obtain ⟨z, hz, hx⟩ := pres_mem h
      exact ⟨z, List.mem_cons_of_mem _ hz, hx⟩
theorem mem_pres : {l : List JV} → {x y : JV} → y ∈ l → x ∈ pre y → x ∈ pres l
  | z :: l, x, y, hy, hx => by
    simp only [pres, List.mem_append]
    rcases List.mem_cons.1 hy with rfl | hy
    · exact .inl hx
    · exact .inr (mem_pres hy hx)
theorem chk_rev {l : List JV} (h : chk (.mk 5 false [] 0 ⟨#[]⟩ l []) = 0) : chk (.mk 5 false [] 0 ⟨#[]⟩ l.reverse []) = 0 := by
  obtain ⟨h1, h2, h3⟩ := chk_zero h
  refine chk_of ?_ ?_ ?_
  · simp only [deep] at h1 ⊢
    rw [if_neg (by omega)] at h1 ⊢
    have hd := (deeps_ge (1000 - 1) l 0).2
    have := deeps_le (1000 - 1) (deeps l (1000 - 1) 0) l.reverse 0 (deeps_ge (1000 - 1) l 0).1 fun x hx => hd x (by simpa using hx)
    omega
  · simp only [size] at h2 ⊢
    obtain ⟨i1, _⟩ := sizes_sum l 1
    obtain ⟨_, j2⟩ := sizes_sum l.reverse 1
    rw [sumS_rev] at j2
    have := i1 (by omega)
    rw [j2 (by omega)]
    omega
  · simp only [pre, firstErr] at h3 ⊢
    have e : own (.mk 5 false [] 0 ⟨#[]⟩ l.reverse []) = own (.mk 5 false [] 0 ⟨#[]⟩ l []) := by
      simp only [own, texts, numOk, used, List.length_reverse]
    rw [e]
    split at h3
    · rename_i h0
      rw [if_pos h0]
      have ha := firstErr_memE _ h3
      refine firstErr_of _ fun x hx => ?_
      obtain ⟨y, hy, hxy⟩ := pres_mem hx
      exact ha x (mem_pres (by simpa using hy) hxy)
    · rename_i h0
      exact absurd h3 h0
theorem letters_none : letters ⟨#[]⟩ = 0 := by
  have e : chkFrom ⟨#[]⟩ 0 = (0, 0) := by
    rw [chkFrom, dif_neg (by simp [ByteArray.size])]
    rfl
  unfold letters
  rw [e]
  rfl
theorem own_text {t : ByteArray} (h : letters t = 0) : own (textV t) = 0 := by
  simp only [textV, own, texts, textsK, h]
  simp [numOk, used, rises]
theorem chk_text {t : ByteArray} (h : letters t = 0) : chk (textV t) = 0 := by
  refine chk_of ?_ ?_ ?_
  · simp [textV, deep]
  · simp only [textV, size, sizes]; omega
  · refine firstErr_of _ fun x hx => ?_
    simp only [textV, pre, pres, List.mem_cons, List.not_mem_nil, or_false] at hx
    rw [hx]
    exact own_text h
theorem chk_none {k : Int} (hk : k = 0 ∨ k = 5) : chk (.mk k false [] 0 ⟨#[]⟩ [] []) = 0 := by
  have ho : own (.mk k false [] 0 ⟨#[]⟩ [] []) = 0 := by
    simp only [own, texts, textsK, letters_none]
    rcases hk with rfl | rfl <;> simp [numOk, used, rises, noText]
  refine chk_of ?_ ?_ ?_
  · rcases hk with rfl | rfl <;> simp [deep, deeps]
  · simp only [size, sizes]; omega
  · refine firstErr_of _ fun x hx => ?_
    simp only [pre, pres, List.mem_cons, List.not_mem_nil, or_false] at hx
    rw [hx]
    exact ho
theorem rev_rev (v : JV) (h : (revOf v).2 = 0) : (revOf (revOf v).1).2 = 0 ∧ (v.kind = 0 ∨ (revOf (revOf v).1).1 = v) := by
  have h' := h
  unfold revOf at h
  split at h
  · rename_i hc
    exact absurd h hc
  · rename_i hc
    have hc := Decidable.not_not.1 hc
    obtain ⟨k, ng, cf, ex, t, l, ks⟩ := v
    have ho := chk_ownE hc
    obtain ⟨f1, f2, f3, f4, f5, f6⟩ := shape_of ho
    obtain ⟨_, _, _, _, s5, _⟩ := own_saidB ho
    clear h
    by_cases hk : k = 0 ∨ k = 5
    · have e1 : revOf (.mk k ng cf ex t l ks) = (.mk 5 false [] 0 ⟨#[]⟩ l.reverse [], 0) := by unfold revOf; rw [if_neg (by simp [hc])]; exact if_pos hk
      rw [e1]
      have c2 : chk (.mk 5 false [] 0 ⟨#[]⟩ l.reverse []) = 0 := by
        rcases hk with rfl | rfl
        · rw [f3 (by omega)]
          exact chk_none (.inr rfl)
        · obtain ⟨rfl, rfl, rfl⟩ := f1 (by omega)
          obtain rfl := f2 (by omega)
          obtain rfl := f4 (by omega)
          exact chk_rev hc
      have e2 : revOf (.mk 5 false [] 0 ⟨#[]⟩ l.reverse []) = (.mk 5 false [] 0 ⟨#[]⟩ l.reverse.reverse [], 0) := by unfold revOf; rw [if_neg (by simp [c2])]; exact if_pos (.inr rfl)
      rw [e2, List.reverse_reverse]
      refine ⟨rfl, ?_⟩
      rcases hk with rfl | rfl
      · exact .inl rfl
      · obtain ⟨rfl, rfl, rfl⟩ := f1 (by omega)
        obtain rfl := f2 (by omega)
        obtain rfl := f4 (by omega)
        exact .inr rfl
    · by_cases hk4 : k = 4
      · subst hk4
        obtain ⟨rfl, rfl, rfl⟩ := f1 (by omega)
        obtain rfl := f3 (by omega)
        obtain rfl := f4 (by omega)
        have ht : (chkFrom t 0).2 = 0 ∧ t.size ≤ 16384 := by
          unfold letters at s5
          split at s5
          · rename_i h0
            split at s5
            · omega
            · exact ⟨h0, by omega⟩
          · rename_i h0
            exact absurd s5 h0
        obtain ⟨L, g1, g2, g3, g4, g5, g6, g7⟩ := rev_text ht.1
        have r1 : revT t = textB L.reverse := by unfold revT; rw [g2, ofN_nat]
        have r2 : revT (textB L.reverse) = t := by
          unfold revT
          rw [g6, ofN_nat, List.reverse_reverse, g4]
        have hl : letters (textB L.reverse) = 0 := by
          unfold letters
          rw [if_pos g5, if_neg (by omega)]
        have e1 : revOf (.mk 4 false [] 0 t [] []) = (textV (revT t), 0) := by unfold revOf; rw [if_neg (by simp [hc])]; exact (if_neg hk).trans (if_pos rfl)
        rw [e1, r1]
        have c2 := chk_text hl
        have e2 : revOf (textV (textB L.reverse)) = (textV (revT (textB L.reverse)), 0) := by
          unfold revOf
          rw [if_neg (by simp [c2])]
          exact (if_neg (by decide : ¬ ((4 : Int) = 0 ∨ (4 : Int) = 5))).trans (if_pos rfl)
        rw [e2, r2]
        exact ⟨rfl, .inr rfl⟩
      · have e1 : revOf (.mk k ng cf ex t l ks) = (zeroV, 41) := by unfold revOf; rw [if_neg (by simp [hc])]; exact (if_neg hk).trans (if_neg hk4)
        rw [e1] at h'
        simp at h'
end Go.Proofs.Bv
namespace Go.Proofs.Bv
open Go
theorem ok141 : codeOk 11 (Tryz.f141.body.getD .skip) = true := by kernel_rfl
theorem ok83 : codeOk 30 (Tryz.f83.body.getD .skip) = true := by kernel_rfl
theorem ok81 : codeOk 27 (Tryz.f81.body.getD .skip) = true := by kernel_rfl
def truth (v : JV) : Bool := !decide (v.kind = 0) && !decide (v.kind = 1)
theorem pc141 (G : Nat → Option (List AV)) (v : JV) : Pc (Cf G) 141 [.agg (enc v)] (.sc (.bool (truth v))) := by
  have hT : truth v = (!decide (v.kind = 0) && !decide (v.kind = 1)) := rfl
  generalize truth v = b at *
  obtain ⟨k, ng, cf, ex, t, l, ks⟩ := v
  simp only [JV.kind] at hT
  simp only [enc]
  by_cases h0 : k = 0
  · subst h0
    have : b = false := by rw [hT]; rfl
    subst this
    refine Pc_of (Gf_enter (C := Cf G) Tryz.func141 rfl ok141 (Nat.le_of_ble_eq_true rfl) ?_)
    simp only [Tryz.f141, Option.getD_some]
    refine wB1 trivial ?_
    simp only [one1, frz_s, Option.map_some]
  · by_cases h1 : k = 1
    · subst h1
      have : b = false := by rw [hT]; rfl
      subst this
      refine Pc_of (Gf_enter (C := Cf G) Tryz.func141 rfl ok141 (Nat.le_of_ble_eq_true rfl) ?_)
      simp only [Tryz.f141, Option.getD_some]
      refine wB1 trivial ?_
      simp only [one1, frz_s, Option.map_some]
    · have : b = true := by rw [hT]; simp [h0, h1]
      subst this
      refine Pc_of (Gf_enter (C := Cf G) Tryz.func141 rfl ok141 (Nat.le_of_ble_eq_true rfl) ?_)
      simp only [Tryz.f141, Option.getD_some]
      refine wB1 (wa h0 h1) ?_
      simp only [one1, frz_s, Option.map_some]
def firstR (ks : List ByteArray) (l : List JV) : List ByteArray → JV → JV
  | [], out => out
  | k :: r, out =>
    match getV ks l k with
    | some x => if truth x = true then x else firstR ks l r x
    | none => firstR ks l r out
def zeroC : List AV := [.sc (.int .i64 0), .sc (.bool false), .nilS, .sc (.int .i64 0), .sc (.string ⟨#[]⟩), .nilS, .nilS]
def Lit (Z : List AV) (v : JV) : Prop := Z = enc v ∨ (Z = zeroC ∧ v = zeroV)
theorem lit_frz {h : Heap} {k : Nat} {Z : List AV} {v : JV} (e : Lit Z v) : (frz h (k + 2) (.agg Z)).map (·.1) = some (.agg (enc v)) := by
  rcases e with rfl | ⟨rfl, rfl⟩
  · rw [frz_pur _ _ (by simp only [AV.pur]; exact enc_pur v)]
    rfl
  · simp only [zeroC, frz_a, mapF, frz_s, frz_n, Option.map_some]
    rfl
theorem Lit.len {Z : List AV} {v : JV} (e : Lit Z v) : Z.length = 7 := by
  rcases e with rfl | ⟨rfl, rfl⟩
  · exact enc_len v
  · rfl
theorem Lit.one {Z : List AV} {v : JV} (e : Lit Z v) : Z.all AV.one = true := by
  rcases e with rfl | ⟨rfl, rfl⟩
  · cases v; rfl
  · rfl
set_option maxHeartbeats 8000000 in
set_option maxRecDepth 100000 in
theorem pc83 (G : Nat → Option (List AV)) (ng : Bool) (cf : List Int) (ex : Int) (t : ByteArray) (l : List JV) (ks names : List ByteArray) (hv : Fit (.mk 6 ng cf ex t l ks)) (hl : ks.length = l.length) (hn : names.length ≤ 1000) :
    Pc (Cf G) 83 [.agg (enc (.mk 6 ng cf ex t l ks)), .psl (strs names) names.length] (.agg (enc (firstR ks l names zeroV))) := by
  have hget := fun s => pc131 G ng cf ex t l ks s hv hl
  simp only [enc] at hget ⊢
  refine Pc_of (Gf_enter (C := Cf G) Tryz.func83 rfl ok83 (Nat.le_of_ble_eq_true rfl) ?_)
  simp only [Tryz.f83, Option.getD_some]
  refine wB1 trivial ?_
  refine Gc_loop_inv (fun m st => ∃ d r out Z, names = d ++ r ∧ m = r.length ∧ 2 ≤ st.n ∧ st.T 2 = .ptr 0 0 ∧ st.T 4 = .ptr 1 0 ∧ st.T 9 = .psl (strs names) names.length ∧ st.T 10 = .sc (.int .i64 names.length) ∧ st.T 11 = .sc (.int .i64 d.length) ∧
    st.h 0 = some (.cells [.sc (.int .i64 6), .sc (.bool ng), .psl (u32s cf) cf.length, .sc (.int .i64 ex), .sc (.string t), .psl (encs l) l.length, .psl (strs ks) ks.length] 0 false) ∧
    st.h 1 = some (.cells Z 0 false) ∧ Lit Z out ∧ firstR ks l r out = firstR ks l names zeroV) ?_ names.length _ ⟨[], names, zeroV, zeroC, rfl, rfl, Nat.le_refl _, rfl, rfl, rfl, rfl, rfl, rfl, rfl, .inr ⟨rfl, rfl⟩, rfl⟩
  rintro m ⟨T, h, n⟩ ⟨d, r, out, Z, hdr, rfl, hn2, t2, t4, t9, t10, t11, q0, q1, hZ, hf⟩
  simp only at hn2 t2 t4 t9 t10 t11 q0 q1
  have zl := hZ.len
  have zo := hZ.one
  have zc : cut Z 0 7 = Z := by rw [cut, List.drop_zero, List.take_of_length_le (by omega)]
  have zd : Z.drop 7 = [] := List.drop_of_length_le (by omega)
  cases r with
  | nil =>
    have e : d = names := by rw [hdr]; simp
    subst e
    have hge : ¬ (d.length : Int) < (d.length : Int) := by omega
    rw [← hf]
    refine wB1 (wa t2 (wa t4 (wa t9 (wa t10 (wa t11 (wa q0 (wa q1 (wa hge (wa zl (wa zo (wa zc zd))))))))))) ?_
    simp only [one1, firstR]
    exact lit_frz hZ
  | cons s r =>
    have hlt : (d.length : Int) < (names.length : Int) := by rw [hdr]; simp; omega
    have hltn : d.length < names.length := by omega
    have hx : (strs names)[d.length * 1]? = some (.sc (.string s)) := by rw [hdr]; simp [strs]
    have hg := hget s
    have w1 : IntKind.i64.wrap ((d.length : Int) + 1) = (d.length : Int) + 1 := i64 (by omega) (by omega)
    have a0 : ¬ 0 = n := by omega
    have a1 : ¬ 1 = n := by omega
    have b0 : ¬ n = 0 := by omega
    have b1 : ¬ n = 1 := by omega
    simp only [firstR] at hf
    cases hv2 : getV ks l s with
    | none =>
      rw [hv2] at hg hf
      simp only [getR, nullV, enc] at hg
      refine wC1 (wa t2 (wa t4 (wa t9 (wa t10 (wa t11 (wa q0 (wa q1 (wa hlt (wa hltn (wa hx (wa w1 (wa a0 (wa a1 (wa b0 (wa b1 (wa zl (wa zo (wa zc zd)))))))))))))))))) (wa hg trivial) ?_
      refine ⟨r.length, by simp, d ++ [s], r, out, Z, by rw [hdr]; simp, rfl, by simp only; omega, ?_, ?_, ?_, ?_, ?_, ?_, ?_, hZ, hf⟩
      · simp only [vop, val, argsT, upd_ap, Nat.reduceEqDiff, if_true, if_false, ite_true, ite_false, reduceIte, loadAt, loadA, AV.cells, AV.one, List.all_cons, List.all_nil, ofV, ofCell, plain, List.getElem?_cons_zero, List.getElem?_cons_succ, List.getElem?_toArray, Option.getD_some, Bool.not_true, Bool.not_false, Bool.false_eq_true, Bool.and_true, Bool.true_and, Bool.and_self, Nat.zero_add, Option.map_some, Option.bind_some, List.map_cons, List.map_nil, ev_add, ev_sub, ev_mul, ev_lss, ev_leq, ev_gtr, ev_geq, ev_eql, ev_neq, ev_seql, ev_sneq, ev_sleq, ev_slss, ev_not, ev_min, ev_max, asNat_nat, asNat_zero, asNat_one, asNat_two, asNat_three, vb_len, List.length_cons, List.length_nil, Nat.reduceAdd, Nat.reduceLeDiff, Nat.reduceMul, Int.reduceEq, Int.reduceLT, Int.reduceLE, Int.reduceNeg, Int.reduceAdd, Int.reduceSub, Nat.reduceLT, decide_true, decide_false, not_true_eq_false, not_false_eq_true, and_self, and_true, true_and, storeA, List.take_zero, List.drop_succ_cons, List.drop_zero, List.nil_append, List.append_nil, List.take_succ_cons, List.cons_append, cut_cons, cut_zero, cut_skip, tAt, hHide, hAt, upsAt, List.contains_cons, List.contains_nil, Nat.reduceBEq, Bool.or_true, Bool.true_or, Bool.or_false, Bool.false_or, Bool.or_self, Bool.and_true, Bool.true_and, Bool.and_false, Bool.false_and, beq_self_eq_true (α := Nat), Option.some_beq_some, Option.none_beq_some, Option.some_beq_none, Bool.false_eq_true, List.all_nil, touch, touchB, Nat.sub_self, List.range'_zero, Nat.add_sub_cancel_left, List.range'_one, t2]
      · simp only [vop, val, argsT, upd_ap, Nat.reduceEqDiff, if_true, if_false, ite_true, ite_false, reduceIte, loadAt, loadA, AV.cells, AV.one, List.all_cons, List.all_nil, ofV, ofCell, plain, List.getElem?_cons_zero, List.getElem?_cons_succ, List.getElem?_toArray, Option.getD_some, Bool.not_true, Bool.not_false, Bool.false_eq_true, Bool.and_true, Bool.true_and, Bool.and_self, Nat.zero_add, Option.map_some, Option.bind_some, List.map_cons, List.map_nil, ev_add, ev_sub, ev_mul, ev_lss, ev_leq, ev_gtr, ev_geq, ev_eql, ev_neq, ev_seql, ev_sneq, ev_sleq, ev_slss, ev_not, ev_min, ev_max, asNat_nat, asNat_zero, asNat_one, asNat_two, asNat_three, vb_len, List.length_cons, List.length_nil, Nat.reduceAdd, Nat.reduceLeDiff, Nat.reduceMul, Int.reduceEq, Int.reduceLT, Int.reduceLE, Int.reduceNeg, Int.reduceAdd, Int.reduceSub, Nat.reduceLT, decide_true, decide_false, not_true_eq_false, not_false_eq_true, and_self, and_true, true_and, storeA, List.take_zero, List.drop_succ_cons, List.drop_zero, List.nil_append, List.append_nil, List.take_succ_cons, List.cons_append, cut_cons, cut_zero, cut_skip, tAt, hHide, hAt, upsAt, List.contains_cons, List.contains_nil, Nat.reduceBEq, Bool.or_true, Bool.true_or, Bool.or_false, Bool.false_or, Bool.or_self, Bool.and_true, Bool.true_and, Bool.and_false, Bool.false_and, beq_self_eq_true (α := Nat), Option.some_beq_some, Option.none_beq_some, Option.some_beq_none, Bool.false_eq_true, List.all_nil, touch, touchB, Nat.sub_self, List.range'_zero, Nat.add_sub_cancel_left, List.range'_one, t4]
      · simp only [vop, val, argsT, upd_ap, Nat.reduceEqDiff, if_true, if_false, ite_true, ite_false, reduceIte, loadAt, loadA, AV.cells, AV.one, List.all_cons, List.all_nil, ofV, ofCell, plain, List.getElem?_cons_zero, List.getElem?_cons_succ, List.getElem?_toArray, Option.getD_some, Bool.not_true, Bool.not_false, Bool.false_eq_true, Bool.and_true, Bool.true_and, Bool.and_self, Nat.zero_add, Option.map_some, Option.bind_some, List.map_cons, List.map_nil, ev_add, ev_sub, ev_mul, ev_lss, ev_leq, ev_gtr, ev_geq, ev_eql, ev_neq, ev_seql, ev_sneq, ev_sleq, ev_slss, ev_not, ev_min, ev_max, asNat_nat, asNat_zero, asNat_one, asNat_two, asNat_three, vb_len, List.length_cons, List.length_nil, Nat.reduceAdd, Nat.reduceLeDiff, Nat.reduceMul, Int.reduceEq, Int.reduceLT, Int.reduceLE, Int.reduceNeg, Int.reduceAdd, Int.reduceSub, Nat.reduceLT, decide_true, decide_false, not_true_eq_false, not_false_eq_true, and_self, and_true, true_and, storeA, List.take_zero, List.drop_succ_cons, List.drop_zero, List.nil_append, List.append_nil, List.take_succ_cons, List.cons_append, cut_cons, cut_zero, cut_skip, tAt, hHide, hAt, upsAt, List.contains_cons, List.contains_nil, Nat.reduceBEq, Bool.or_true, Bool.true_or, Bool.or_false, Bool.false_or, Bool.or_self, Bool.and_true, Bool.true_and, Bool.and_false, Bool.false_and, beq_self_eq_true (α := Nat), Option.some_beq_some, Option.none_beq_some, Option.some_beq_none, Bool.false_eq_true, List.all_nil, touch, touchB, Nat.sub_self, List.range'_zero, Nat.add_sub_cancel_left, List.range'_one, t9]
      · simp only [vop, val, argsT, upd_ap, Nat.reduceEqDiff, if_true, if_false, ite_true, ite_false, reduceIte, loadAt, loadA, AV.cells, AV.one, List.all_cons, List.all_nil, ofV, ofCell, plain, List.getElem?_cons_zero, List.getElem?_cons_succ, List.getElem?_toArray, Option.getD_some, Bool.not_true, Bool.not_false, Bool.false_eq_true, Bool.and_true, Bool.true_and, Bool.and_self, Nat.zero_add, Option.map_some, Option.bind_some, List.map_cons, List.map_nil, ev_add, ev_sub, ev_mul, ev_lss, ev_leq, ev_gtr, ev_geq, ev_eql, ev_neq, ev_seql, ev_sneq, ev_sleq, ev_slss, ev_not, ev_min, ev_max, asNat_nat, asNat_zero, asNat_one, asNat_two, asNat_three, vb_len, List.length_cons, List.length_nil, Nat.reduceAdd, Nat.reduceLeDiff, Nat.reduceMul, Int.reduceEq, Int.reduceLT, Int.reduceLE, Int.reduceNeg, Int.reduceAdd, Int.reduceSub, Nat.reduceLT, decide_true, decide_false, not_true_eq_false, not_false_eq_true, and_self, and_true, true_and, storeA, List.take_zero, List.drop_succ_cons, List.drop_zero, List.nil_append, List.append_nil, List.take_succ_cons, List.cons_append, cut_cons, cut_zero, cut_skip, tAt, hHide, hAt, upsAt, List.contains_cons, List.contains_nil, Nat.reduceBEq, Bool.or_true, Bool.true_or, Bool.or_false, Bool.false_or, Bool.or_self, Bool.and_true, Bool.true_and, Bool.and_false, Bool.false_and, beq_self_eq_true (α := Nat), Option.some_beq_some, Option.none_beq_some, Option.some_beq_none, Bool.false_eq_true, List.all_nil, touch, touchB, Nat.sub_self, List.range'_zero, Nat.add_sub_cancel_left, List.range'_one, t10]
      · simp [upd_ap]
      · simp only [vop, val, argsT, upd_ap, Nat.reduceEqDiff, if_true, if_false, ite_true, ite_false, reduceIte, loadAt, loadA, AV.cells, AV.one, List.all_cons, List.all_nil, ofV, ofCell, plain, List.getElem?_cons_zero, List.getElem?_cons_succ, List.getElem?_toArray, Option.getD_some, Bool.not_true, Bool.not_false, Bool.false_eq_true, Bool.and_true, Bool.true_and, Bool.and_self, Nat.zero_add, Option.map_some, Option.bind_some, List.map_cons, List.map_nil, ev_add, ev_sub, ev_mul, ev_lss, ev_leq, ev_gtr, ev_geq, ev_eql, ev_neq, ev_seql, ev_sneq, ev_sleq, ev_slss, ev_not, ev_min, ev_max, asNat_nat, asNat_zero, asNat_one, asNat_two, asNat_three, vb_len, List.length_cons, List.length_nil, Nat.reduceAdd, Nat.reduceLeDiff, Nat.reduceMul, Int.reduceEq, Int.reduceLT, Int.reduceLE, Int.reduceNeg, Int.reduceAdd, Int.reduceSub, Nat.reduceLT, decide_true, decide_false, not_true_eq_false, not_false_eq_true, and_self, and_true, true_and, storeA, List.take_zero, List.drop_succ_cons, List.drop_zero, List.nil_append, List.append_nil, List.take_succ_cons, List.cons_append, cut_cons, cut_zero, cut_skip, tAt, hHide, hAt, upsAt, List.contains_cons, List.contains_nil, Nat.reduceBEq, Bool.or_true, Bool.true_or, Bool.or_false, Bool.false_or, Bool.or_self, Bool.and_true, Bool.true_and, Bool.and_false, Bool.false_and, beq_self_eq_true (α := Nat), Option.some_beq_some, Option.none_beq_some, Option.some_beq_none, Bool.false_eq_true, List.all_nil, touch, touchB, Nat.sub_self, List.range'_zero, Nat.add_sub_cancel_left, List.range'_one, q0, a0, a1, b0, b1]
      · simp only [vop, val, argsT, upd_ap, Nat.reduceEqDiff, if_true, if_false, ite_true, ite_false, reduceIte, loadAt, loadA, AV.cells, AV.one, List.all_cons, List.all_nil, ofV, ofCell, plain, List.getElem?_cons_zero, List.getElem?_cons_succ, List.getElem?_toArray, Option.getD_some, Bool.not_true, Bool.not_false, Bool.false_eq_true, Bool.and_true, Bool.true_and, Bool.and_self, Nat.zero_add, Option.map_some, Option.bind_some, List.map_cons, List.map_nil, ev_add, ev_sub, ev_mul, ev_lss, ev_leq, ev_gtr, ev_geq, ev_eql, ev_neq, ev_seql, ev_sneq, ev_sleq, ev_slss, ev_not, ev_min, ev_max, asNat_nat, asNat_zero, asNat_one, asNat_two, asNat_three, vb_len, List.length_cons, List.length_nil, Nat.reduceAdd, Nat.reduceLeDiff, Nat.reduceMul, Int.reduceEq, Int.reduceLT, Int.reduceLE, Int.reduceNeg, Int.reduceAdd, Int.reduceSub, Nat.reduceLT, decide_true, decide_false, not_true_eq_false, not_false_eq_true, and_self, and_true, true_and, storeA, List.take_zero, List.drop_succ_cons, List.drop_zero, List.nil_append, List.append_nil, List.take_succ_cons, List.cons_append, cut_cons, cut_zero, cut_skip, tAt, hHide, hAt, upsAt, List.contains_cons, List.contains_nil, Nat.reduceBEq, Bool.or_true, Bool.true_or, Bool.or_false, Bool.false_or, Bool.or_self, Bool.and_true, Bool.true_and, Bool.and_false, Bool.false_and, beq_self_eq_true (α := Nat), Option.some_beq_some, Option.none_beq_some, Option.some_beq_none, Bool.false_eq_true, List.all_nil, touch, touchB, Nat.sub_self, List.range'_zero, Nat.add_sub_cancel_left, List.range'_one, q1, a0, a1, b0, b1, zd]
    | some x =>
      rw [hv2] at hg hf
      have h141 := pc141 G x
      simp only at hf
      obtain ⟨xk, xg, xc, xe, xt, xl, xs⟩ := x
      simp only [getR, enc] at hg h141
      cases htr : truth (.mk xk xg xc xe xt xl xs) with
      | true =>
        rw [htr] at h141 hf
        rw [if_pos rfl] at hf
        rw [← hf]
        refine wC1 (wa t2 (wa t4 (wa t9 (wa t10 (wa t11 (wa q0 (wa q1 (wa hlt (wa hltn (wa hx (wa w1 (wa a0 (wa a1 (wa b0 (wa b1 (wa zl (wa zo (wa zc zd)))))))))))))))))) (wa hg (wa h141 trivial)) ?_
        simp only [one1, frz_a, mapF, frz_s, frz_l, Option.map_some, List.append_nil, enc]
      | false =>
        rw [htr] at h141 hf
        refine wC1 (wa t2 (wa t4 (wa t9 (wa t10 (wa t11 (wa q0 (wa q1 (wa hlt (wa hltn (wa hx (wa w1 (wa a0 (wa a1 (wa b0 (wa b1 (wa zl (wa zo (wa zc zd)))))))))))))))))) (wa hg (wa h141 trivial)) ?_
        refine ⟨r.length, by simp, d ++ [s], r, .mk xk xg xc xe xt xl xs, enc (.mk xk xg xc xe xt xl xs), by rw [hdr]; simp, rfl, by simp only; omega, ?_, ?_, ?_, ?_, ?_, ?_, ?_, .inl rfl, hf⟩
        · simp only [vop, val, argsT, upd_ap, Nat.reduceEqDiff, if_true, if_false, ite_true, ite_false, reduceIte, loadAt, loadA, AV.cells, AV.one, List.all_cons, List.all_nil, ofV, ofCell, plain, List.getElem?_cons_zero, List.getElem?_cons_succ, List.getElem?_toArray, Option.getD_some, Bool.not_true, Bool.not_false, Bool.false_eq_true, Bool.and_true, Bool.true_and, Bool.and_self, Nat.zero_add, Option.map_some, Option.bind_some, List.map_cons, List.map_nil, ev_add, ev_sub, ev_mul, ev_lss, ev_leq, ev_gtr, ev_geq, ev_eql, ev_neq, ev_seql, ev_sneq, ev_sleq, ev_slss, ev_not, ev_min, ev_max, asNat_nat, asNat_zero, asNat_one, asNat_two, asNat_three, vb_len, List.length_cons, List.length_nil, Nat.reduceAdd, Nat.reduceLeDiff, Nat.reduceMul, Int.reduceEq, Int.reduceLT, Int.reduceLE, Int.reduceNeg, Int.reduceAdd, Int.reduceSub, Nat.reduceLT, decide_true, decide_false, not_true_eq_false, not_false_eq_true, and_self, and_true, true_and, storeA, List.take_zero, List.drop_succ_cons, List.drop_zero, List.nil_append, List.append_nil, List.take_succ_cons, List.cons_append, cut_cons, cut_zero, cut_skip, tAt, hHide, hAt, upsAt, List.contains_cons, List.contains_nil, Nat.reduceBEq, Bool.or_true, Bool.true_or, Bool.or_false, Bool.false_or, Bool.or_self, Bool.and_true, Bool.true_and, Bool.and_false, Bool.false_and, beq_self_eq_true (α := Nat), Option.some_beq_some, Option.none_beq_some, Option.some_beq_none, Bool.false_eq_true, List.all_nil, touch, touchB, Nat.sub_self, List.range'_zero, Nat.add_sub_cancel_left, List.range'_one, t2]
        · simp only [vop, val, argsT, upd_ap, Nat.reduceEqDiff, if_true, if_false, ite_true, ite_false, reduceIte, loadAt, loadA, AV.cells, AV.one, List.all_cons, List.all_nil, ofV, ofCell, plain, List.getElem?_cons_zero, List.getElem?_cons_succ, List.getElem?_toArray, Option.getD_some, Bool.not_true, Bool.not_false, Bool.false_eq_true, Bool.and_true, Bool.true_and, Bool.and_self, Nat.zero_add, Option.map_some, Option.bind_some, List.map_cons, List.map_nil, ev_add, ev_sub, ev_mul, ev_lss, ev_leq, ev_gtr, ev_geq, ev_eql, ev_neq, ev_seql, ev_sneq, ev_sleq, ev_slss, ev_not, ev_min, ev_max, asNat_nat, asNat_zero, asNat_one, asNat_two, asNat_three, vb_len, List.length_cons, List.length_nil, Nat.reduceAdd, Nat.reduceLeDiff, Nat.reduceMul, Int.reduceEq, Int.reduceLT, Int.reduceLE, Int.reduceNeg, Int.reduceAdd, Int.reduceSub, Nat.reduceLT, decide_true, decide_false, not_true_eq_false, not_false_eq_true, and_self, and_true, true_and, storeA, List.take_zero, List.drop_succ_cons, List.drop_zero, List.nil_append, List.append_nil, List.take_succ_cons, List.cons_append, cut_cons, cut_zero, cut_skip, tAt, hHide, hAt, upsAt, List.contains_cons, List.contains_nil, Nat.reduceBEq, Bool.or_true, Bool.true_or, Bool.or_false, Bool.false_or, Bool.or_self, Bool.and_true, Bool.true_and, Bool.and_false, Bool.false_and, beq_self_eq_true (α := Nat), Option.some_beq_some, Option.none_beq_some, Option.some_beq_none, Bool.false_eq_true, List.all_nil, touch, touchB, Nat.sub_self, List.range'_zero, Nat.add_sub_cancel_left, List.range'_one, t4]
        · simp only [vop, val, argsT, upd_ap, Nat.reduceEqDiff, if_true, if_false, ite_true, ite_false, reduceIte, loadAt, loadA, AV.cells, AV.one, List.all_cons, List.all_nil, ofV, ofCell, plain, List.getElem?_cons_zero, List.getElem?_cons_succ, List.getElem?_toArray, Option.getD_some, Bool.not_true, Bool.not_false, Bool.false_eq_true, Bool.and_true, Bool.true_and, Bool.and_self, Nat.zero_add, Option.map_some, Option.bind_some, List.map_cons, List.map_nil, ev_add, ev_sub, ev_mul, ev_lss, ev_leq, ev_gtr, ev_geq, ev_eql, ev_neq, ev_seql, ev_sneq, ev_sleq, ev_slss, ev_not, ev_min, ev_max, asNat_nat, asNat_zero, asNat_one, asNat_two, asNat_three, vb_len, List.length_cons, List.length_nil, Nat.reduceAdd, Nat.reduceLeDiff, Nat.reduceMul, Int.reduceEq, Int.reduceLT, Int.reduceLE, Int.reduceNeg, Int.reduceAdd, Int.reduceSub, Nat.reduceLT, decide_true, decide_false, not_true_eq_false, not_false_eq_true, and_self, and_true, true_and, storeA, List.take_zero, List.drop_succ_cons, List.drop_zero, List.nil_append, List.append_nil, List.take_succ_cons, List.cons_append, cut_cons, cut_zero, cut_skip, tAt, hHide, hAt, upsAt, List.contains_cons, List.contains_nil, Nat.reduceBEq, Bool.or_true, Bool.true_or, Bool.or_false, Bool.false_or, Bool.or_self, Bool.and_true, Bool.true_and, Bool.and_false, Bool.false_and, beq_self_eq_true (α := Nat), Option.some_beq_some, Option.none_beq_some, Option.some_beq_none, Bool.false_eq_true, List.all_nil, touch, touchB, Nat.sub_self, List.range'_zero, Nat.add_sub_cancel_left, List.range'_one, t9]
        · simp only [vop, val, argsT, upd_ap, Nat.reduceEqDiff, if_true, if_false, ite_true, ite_false, reduceIte, loadAt, loadA, AV.cells, AV.one, List.all_cons, List.all_nil, ofV, ofCell, plain, List.getElem?_cons_zero, List.getElem?_cons_succ, List.getElem?_toArray, Option.getD_some, Bool.not_true, Bool.not_false, Bool.false_eq_true, Bool.and_true, Bool.true_and, Bool.and_self, Nat.zero_add, Option.map_some, Option.bind_some, List.map_cons, List.map_nil, ev_add, ev_sub, ev_mul, ev_lss, ev_leq, ev_gtr, ev_geq, ev_eql, ev_neq, ev_seql, ev_sneq, ev_sleq, ev_slss, ev_not, ev_min, ev_max, asNat_nat, asNat_zero, asNat_one, asNat_two, asNat_three, vb_len, List.length_cons, List.length_nil, Nat.reduceAdd, Nat.reduceLeDiff, Nat.reduceMul, Int.reduceEq, Int.reduceLT, Int.reduceLE, Int.reduceNeg, Int.reduceAdd, Int.reduceSub, Nat.reduceLT, decide_true, decide_false, not_true_eq_false, not_false_eq_true, and_self, and_true, true_and, storeA, List.take_zero, List.drop_succ_cons, List.drop_zero, List.nil_append, List.append_nil, List.take_succ_cons, List.cons_append, cut_cons, cut_zero, cut_skip, tAt, hHide, hAt, upsAt, List.contains_cons, List.contains_nil, Nat.reduceBEq, Bool.or_true, Bool.true_or, Bool.or_false, Bool.false_or, Bool.or_self, Bool.and_true, Bool.true_and, Bool.and_false, Bool.false_and, beq_self_eq_true (α := Nat), Option.some_beq_some, Option.none_beq_some, Option.some_beq_none, Bool.false_eq_true, List.all_nil, touch, touchB, Nat.sub_self, List.range'_zero, Nat.add_sub_cancel_left, List.range'_one, t10]
        · simp [upd_ap]
        · simp only [vop, val, argsT, upd_ap, Nat.reduceEqDiff, if_true, if_false, ite_true, ite_false, reduceIte, loadAt, loadA, AV.cells, AV.one, List.all_cons, List.all_nil, ofV, ofCell, plain, List.getElem?_cons_zero, List.getElem?_cons_succ, List.getElem?_toArray, Option.getD_some, Bool.not_true, Bool.not_false, Bool.false_eq_true, Bool.and_true, Bool.true_and, Bool.and_self, Nat.zero_add, Option.map_some, Option.bind_some, List.map_cons, List.map_nil, ev_add, ev_sub, ev_mul, ev_lss, ev_leq, ev_gtr, ev_geq, ev_eql, ev_neq, ev_seql, ev_sneq, ev_sleq, ev_slss, ev_not, ev_min, ev_max, asNat_nat, asNat_zero, asNat_one, asNat_two, asNat_three, vb_len, List.length_cons, List.length_nil, Nat.reduceAdd, Nat.reduceLeDiff, Nat.reduceMul, Int.reduceEq, Int.reduceLT, Int.reduceLE, Int.reduceNeg, Int.reduceAdd, Int.reduceSub, Nat.reduceLT, decide_true, decide_false, not_true_eq_false, not_false_eq_true, and_self, and_true, true_and, storeA, List.take_zero, List.drop_succ_cons, List.drop_zero, List.nil_append, List.append_nil, List.take_succ_cons, List.cons_append, cut_cons, cut_zero, cut_skip, tAt, hHide, hAt, upsAt, List.contains_cons, List.contains_nil, Nat.reduceBEq, Bool.or_true, Bool.true_or, Bool.or_false, Bool.false_or, Bool.or_self, Bool.and_true, Bool.true_and, Bool.and_false, Bool.false_and, beq_self_eq_true (α := Nat), Option.some_beq_some, Option.none_beq_some, Option.some_beq_none, Bool.false_eq_true, List.all_nil, touch, touchB, Nat.sub_self, List.range'_zero, Nat.add_sub_cancel_left, List.range'_one, q0, a0, a1, b0, b1]
        · simp only [vop, val, argsT, upd_ap, Nat.reduceEqDiff, if_true, if_false, ite_true, ite_false, reduceIte, loadAt, loadA, AV.cells, AV.one, List.all_cons, List.all_nil, ofV, ofCell, plain, List.getElem?_cons_zero, List.getElem?_cons_succ, List.getElem?_toArray, Option.getD_some, Bool.not_true, Bool.not_false, Bool.false_eq_true, Bool.and_true, Bool.true_and, Bool.and_self, Nat.zero_add, Option.map_some, Option.bind_some, List.map_cons, List.map_nil, ev_add, ev_sub, ev_mul, ev_lss, ev_leq, ev_gtr, ev_geq, ev_eql, ev_neq, ev_seql, ev_sneq, ev_sleq, ev_slss, ev_not, ev_min, ev_max, asNat_nat, asNat_zero, asNat_one, asNat_two, asNat_three, vb_len, List.length_cons, List.length_nil, Nat.reduceAdd, Nat.reduceLeDiff, Nat.reduceMul, Int.reduceEq, Int.reduceLT, Int.reduceLE, Int.reduceNeg, Int.reduceAdd, Int.reduceSub, Nat.reduceLT, decide_true, decide_false, not_true_eq_false, not_false_eq_true, and_self, and_true, true_and, storeA, List.take_zero, List.drop_succ_cons, List.drop_zero, List.nil_append, List.append_nil, List.take_succ_cons, List.cons_append, cut_cons, cut_zero, cut_skip, tAt, hHide, hAt, upsAt, List.contains_cons, List.contains_nil, Nat.reduceBEq, Bool.or_true, Bool.true_or, Bool.or_false, Bool.false_or, Bool.or_self, Bool.and_true, Bool.true_and, Bool.and_false, Bool.false_and, beq_self_eq_true (α := Nat), Option.some_beq_some, Option.none_beq_some, Option.some_beq_none, Bool.false_eq_true, List.all_nil, touch, touchB, Nat.sub_self, List.range'_zero, Nat.add_sub_cancel_left, List.range'_one, q1, a0, a1, b0, b1, zd]
          rfl
def kB : ByteArray := ⟨#[107]⟩
def nameB : ByteArray := ⟨#[110, 97, 109, 101]⟩
def vB : ByteArray := ⟨#[118]⟩
theorem pc81 (G : Nat → Option (List AV)) (ng : Bool) (cf : List Int) (ex : Int) (t : ByteArray) (l : List JV) (ks : List ByteArray) (hv : Fit (.mk 6 ng cf ex t l ks)) (hl : ks.length = l.length) (s : ByteArray) (hs : firstR ks l [keyB, kB, nameB] zeroV = textV s) :
    Pc (Cf G) 81 [.agg (enc (.mk 6 ng cf ex t l ks))] (.tup [.sc (.string s), .sc (.int .i64 0)]) := by
  have h83 := pc83 G ng cf ex t l ks [keyB, kB, nameB] hv hl (by simp)
  rw [hs] at h83
  simp only [textV, enc, encs, u32s, strs, List.map_nil, List.map_cons, List.length_nil, List.length_cons, Nat.zero_add, Nat.reduceAdd] at h83 ⊢
  refine Pc_of (Gf_enter (C := Cf G) Tryz.func81 rfl ok81 (Nat.le_of_ble_eq_true rfl) ?_)
  simp only [Tryz.f81, Option.getD_some]
  refine wF1 trivial (wa h83 trivial) ?_
  simp only [one1, frz_t, mapF, frz_s, Option.map_some, List.append_nil]
end Go.Proofs.Bv
