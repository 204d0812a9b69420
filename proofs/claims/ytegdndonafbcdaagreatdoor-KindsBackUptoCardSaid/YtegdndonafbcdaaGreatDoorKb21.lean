/-
  A part of the proof of KindsBackUptoCardSaid: BkUtf, BkRefC, BkRefD, BkRefU, BkUText, BkUText2.
  Conditions: those that each part names.
-/
import Derived.Test.YtegdndonafbcdaaGreatDoorKb20
import Derived.Lib.DecodeN
set_option linter.unusedSimpArgs false
set_option linter.unusedVariables false
namespace Go.Proofs.Bv
open Go
def mayN (n : Nat) : Bool := decide (n ≤ 1114111) && (decide (n < 55296) || decide (57343 < n))
def octN (n : Nat) : List Nat :=
  if n < 128 then [n]
  else if n < 2048 then [192 + n / 64, 128 + n % 64]
  else if n < 65536 then [224 + n / 4096, 128 + n / 64 % 64, 128 + n % 64]
  else [240 + n / 262144, 128 + n / 4096 % 64, 128 + n / 64 % 64, 128 + n % 64]
def finN (bs : List Nat) (n : Nat) : Nat × Nat := if mayN n = true ∧ octN n = bs then (n, bs.length) else (0, 0)
def firstN (n b0 b1 b2 b3 : Nat) : Nat × Nat :=
  if n = 0 then (0, 0)
  else if 240 ≤ b0 then (if n < 4 then (0, 0) else finN [b0, b1, b2, b3] ((((b0 - 240) * 64 + b1 % 64) * 64 + b2 % 64) * 64 + b3 % 64))
  else if 224 ≤ b0 then (if n < 3 then (0, 0) else finN [b0, b1, b2] (((b0 - 224) * 64 + b1 % 64) * 64 + b2 % 64))
  else if 192 ≤ b0 then (if n < 2 then (0, 0) else finN [b0, b1] ((b0 - 192) * 64 + b1 % 64))
  else finN [b0] b0
def goodN (d : Nat × Nat) : Nat × Nat := if d.1 = 65533 ∧ d.2 = 1 then (0, 0) else d
theorem octN_1 (n b0 : Nat) (h : mayN n = true) : octN n = [b0] ↔ n < 128 ∧ n = b0 := by
  unfold octN
  split
  · simp; omega
  · split
    · simp; omega
    · split
      · simp; omega
      · simp; omega
theorem octN_2 (n b0 b1 : Nat) : octN n = [b0, b1] ↔ 128 ≤ n ∧ n < 2048 ∧ 192 + n / 64 = b0 ∧ 128 + n % 64 = b1 := by
  unfold octN
  split
  · simp; omega
  · split
    · simp; omega
    · split
      · simp; omega
      · simp; omega
theorem octN_3 (n b0 b1 b2 : Nat) : octN n = [b0, b1, b2] ↔ 2048 ≤ n ∧ n < 65536 ∧ 224 + n / 4096 = b0 ∧ 128 + n / 64 % 64 = b1 ∧ 128 + n % 64 = b2 := by
  unfold octN
  split
  · simp; omega
  · split
    · simp; omega
    · split
      · simp; omega
      · simp; omega
theorem octN_4 (n b0 b1 b2 b3 : Nat) : octN n = [b0, b1, b2, b3] ↔ 65536 ≤ n ∧ 240 + n / 262144 = b0 ∧ 128 + n / 4096 % 64 = b1 ∧ 128 + n / 64 % 64 = b2 ∧ 128 + n % 64 = b3 := by
  unfold octN
  split
  · simp; omega
  · split
    · simp; omega
    · split
      · simp; omega
      · simp; omega
theorem mayN_iff (n : Nat) : mayN n = true ↔ n ≤ 1114111 ∧ (n < 55296 ∨ 57343 < n) := by simp [mayN]
set_option maxHeartbeats 4000000 in
theorem first_good (n b0 b1 b2 b3 : Nat) (hn : 0 < n) (h0 : b0 < 256) (h1 : b1 < 256) (h2 : b2 < 256) (h3 : b3 < 256) : firstN n b0 b1 b2 b3 = goodN (Lib.decodeN n b0 b1 b2 b3) := by
  unfold firstN
  rw [if_neg (by omega)]
  by_cases c1 : 240 ≤ b0
  · rw [if_pos c1]
    unfold Lib.decodeN
    by_cases hn4 : n < 4
    · rw [if_pos hn4, if_neg (by omega), if_neg (by omega), if_neg (by omega), if_neg (by omega)]
      simp [goodN]
    · rw [if_neg hn4, if_neg (by omega), if_neg (by omega), if_neg (by omega)]
      by_cases hc : b0 / 8 = 30 ∧ b1 / 64 = 2 ∧ b2 / 64 = 2 ∧ b3 / 64 = 2
      · rw [if_pos (by omega)]
        generalize hv : b0 % 8 * 262144 + b1 % 64 * 4096 + b2 % 64 * 64 + b3 % 64 = v
        have e : (((b0 - 240) * 64 + b1 % 64) * 64 + b2 % 64) * 64 + b3 % 64 = v := by omega
        rw [e]
        unfold finN
        by_cases hg : v ≥ 65536 ∧ (v < 55296 ∨ 57344 ≤ v ∧ v ≤ 1114111)
        · rw [if_pos hg, if_pos ⟨(mayN_iff v).2 (by omega), (octN_4 v b0 b1 b2 b3).2 (by omega)⟩]
          unfold goodN
          rw [if_neg (by simp)]
          rfl
        · rw [if_neg hg, if_neg (by rw [mayN_iff, octN_4]; omega)]
          simp [goodN]
      · rw [if_neg (by omega)]
        unfold finN
        rw [if_neg (by rw [mayN_iff, octN_4]; omega)]
        simp [goodN]
  · rw [if_neg c1]
    by_cases c2 : 224 ≤ b0
    · rw [if_pos c2]
      unfold Lib.decodeN
      by_cases hn3 : n < 3
      · rw [if_pos hn3, if_neg (by omega), if_neg (by omega), if_neg (by omega), if_neg (by omega)]
        simp [goodN]
      · rw [if_neg hn3, if_neg (by omega), if_neg (by omega)]
        by_cases hc : b1 / 64 = 2 ∧ b2 / 64 = 2
        · rw [if_pos (by omega)]
          generalize hv : b0 % 16 * 4096 + b1 % 64 * 64 + b2 % 64 = v
          have e : ((b0 - 224) * 64 + b1 % 64) * 64 + b2 % 64 = v := by omega
          rw [e]
          unfold finN
          by_cases hg : v ≥ 2048 ∧ (v < 55296 ∨ 57344 ≤ v ∧ v ≤ 1114111)
          · rw [if_pos hg, if_pos ⟨(mayN_iff v).2 (by omega), (octN_3 v b0 b1 b2).2 (by omega)⟩]
            unfold goodN
            rw [if_neg (by simp)]
            rfl
          · rw [if_neg hg, if_neg (by rw [mayN_iff, octN_3]; omega)]
            simp [goodN]
        · rw [if_neg (by omega), if_neg (by omega)]
          unfold finN
          rw [if_neg (by rw [mayN_iff, octN_3]; omega)]
          simp [goodN]
    · rw [if_neg c2]
      by_cases c3 : 192 ≤ b0
      · rw [if_pos c3]
        unfold Lib.decodeN
        by_cases hn2 : n < 2
        · rw [if_pos hn2, if_neg (by omega), if_neg (by omega), if_neg (by omega), if_neg (by omega)]
          simp [goodN]
        · rw [if_neg hn2, if_neg (by omega)]
          by_cases hc : b1 / 64 = 2
          · rw [if_pos (by omega)]
            generalize hv : b0 % 32 * 64 + b1 % 64 = v
            have e : (b0 - 192) * 64 + b1 % 64 = v := by omega
            rw [e]
            unfold finN
            by_cases hg : v ≥ 128
            · rw [if_pos hg, if_pos ⟨(mayN_iff v).2 (by omega), (octN_2 v b0 b1).2 (by omega)⟩]
              unfold goodN
              rw [if_neg (by simp)]
              rfl
            · rw [if_neg hg, if_neg (by rw [mayN_iff, octN_2]; omega)]
              simp [goodN]
          · rw [if_neg (by omega), if_neg (by omega), if_neg (by omega)]
            unfold finN
            rw [if_neg (by rw [mayN_iff, octN_2]; omega)]
            simp [goodN]
      · rw [if_neg c3]
        unfold Lib.decodeN finN
        by_cases c4 : b0 < 128
        · rw [if_pos c4, if_pos ⟨(mayN_iff b0).2 (by omega), (octN_1 b0 b0 ((mayN_iff b0).2 (by omega))).2 ⟨c4, rfl⟩⟩]
          unfold goodN
          rw [if_neg (by simp; omega)]
          rfl
        · have hm : mayN b0 = true := (mayN_iff b0).2 (by omega)
          rw [if_neg (by rw [octN_1 b0 b0 hm]; omega), if_neg c4, if_neg (by omega), if_neg (by omega), if_neg (by omega)]
          simp [goodN]
end Go.Proofs.Bv
namespace Go.Proofs.Bv
open Go
theorem ok48 : codeOk 45 (Tryz.f48.body.getD .skip) = true := by kernel_rfl
def sameL : List Int → List Int → Bool
  | x :: a, y :: b => decide (x = y) && sameL a b
  | _, _ => true
theorem sameL_self : (a : List Int) → sameL a a = true
  | [] => rfl
  | x :: a => by simp [sameL, sameL_self a]
def sameD (n1 : Bool) (c1 : List Int) (e1 : Int) (n2 : Bool) (c2 : List Int) (e2 : Int) : Bool := decide (n1 = n2) && decide (e1 = e2) && decide (c1.length = c2.length) && sameL c1 c2
theorem pureRun_bind {P : Program} {α β : Type} (f : α → Sem β) (s : Sem α) : ∀ {a : α}, pureRun P s = some a → pureRun P (s.bind f) = pureRun P (f a) := by
  induction s with
  | pure x =>
    intro a h
    simp only [pureRun, Option.some.injEq] at h
    subst h
    rfl
  | program k ih =>
    intro a h
    have := ih P (a := a) (by simpa only [pureRun] using h)
    simpa only [Sem.bind, pureRun] using this
  | _ => intro a h; simp [pureRun] at h
theorem eq_bool {P : Program} {t : TypeId} (ht : P.underlying t = some .bool) (k : Nat) (a b : Bool) : pureRun P (Op.equalIn (k + 1) t (.bool a) (.bool b)) = some (a == b) := by
  simp only [Op.equalIn, Go.underlying, program, bind, Sem.bind, pureRun, ht, pure]
theorem ev_neqb {P : Program} {t : TypeId} (ht : P.underlying t = some .bool) {xo yo : Operand} {a b : Bool} : vbin P .neq t xo yo (.sc (.bool a)) (.sc (.bool b)) = some (.sc (.bool (!(a == b)))) := by
  have h1 := eq_bool ht 9999 a b
  have h2 : pureRun P (do eqGuard .neq t xo yo (.bool a) (.bool b); binOp .neq t (.bool a) (.bool b)) = some (.bool (!(a == b))) := by
    have e : (do eqGuard .neq t xo yo (.bool a) (.bool b); binOp .neq t (.bool a) (.bool b) : Sem Value) = (Op.equalIn (9999 + 1) t (.bool a) (.bool b)).bind fun c => Sem.pure (.bool !c) := rfl
    rw [e, pureRun_bind _ _ h1]
    rfl
  simp only [vbin, toVal, h2, Option.bind_some, scal, plain, if_true]
theorem ev_eqlb {P : Program} {t : TypeId} (ht : P.underlying t = some .bool) {xo yo : Operand} {a b : Bool} : vbin P .eql t xo yo (.sc (.bool a)) (.sc (.bool b)) = some (.sc (.bool (a == b))) := by
  have h1 := eq_bool ht 9999 a b
  have h2 : pureRun P (do eqGuard .eql t xo yo (.bool a) (.bool b); binOp .eql t (.bool a) (.bool b)) = some (.bool (a == b)) := by
    have e : (do eqGuard .eql t xo yo (.bool a) (.bool b); binOp .eql t (.bool a) (.bool b) : Sem Value) = (Op.equalIn (9999 + 1) t (.bool a) (.bool b)).bind fun c => Sem.pure (.bool c) := rfl
    rw [e, pureRun_bind _ _ h1]
    rfl
  simp only [vbin, toVal, h2, Option.bind_some, scal, plain, if_true]
set_option maxHeartbeats 4000000 in
set_option maxRecDepth 100000 in
theorem pc48 (G : Nat → Option (List AV)) (n1 n2 : Bool) (c1 c2 : List Int) (e1 e2 : Int) (hl : c1.length ≤ 140737488355328) :
    Pc (Cf G) 48 [.agg [.sc (.bool n1), .psl (u32s c1) c1.length, .sc (.int .i64 e1)], .agg [.sc (.bool n2), .psl (u32s c2) c2.length, .sc (.int .i64 e2)]] (.sc (.bool (sameD n1 c1 e1 n2 c2 e2))) := by
  have hn := @ev_neqb Tryz.prog 4 Tryz.underlying4
  by_cases hc : n1 = n2 ∧ e1 = e2 ∧ c1.length = c2.length
  · obtain ⟨rfl, rfl, hlen⟩ := hc
    have hlen' : (c1.length : Int) = (c2.length : Int) := by omega
    have hb : (n1 == n1) = true := by simp
    have hD : sameD n1 c1 e1 n1 c2 e1 = sameL c1 c2 := by simp [sameD, hlen]
    rw [hD]
    refine Pc_of (Gf_enter (C := Cf G) Tryz.func48 rfl ok48 (Nat.le_of_ble_eq_true rfl) ?_)
    simp only [Tryz.f48, Option.getD_some]
    refine wB1 (wa @hn (wa hlen' hb)) ?_
    refine Gc_loop_inv (fun m st => ∃ d r d2 r2, c1 = d ++ r ∧ c2 = d2 ++ r2 ∧ d.length = d2.length ∧ r.length = r2.length ∧ m = r.length ∧ sameL r r2 = sameL c1 c2 ∧ st.T 2 = .ptr 0 0 ∧ st.T 3 = .ptr 1 0 ∧ st.T 5 = .sc (.int .i64 d.length) ∧
      st.h 0 = some (.cells [.sc (.bool n1), .psl (u32s c1) c1.length, .sc (.int .i64 e1)] 0 false) ∧ st.h 1 = some (.cells [.sc (.bool n1), .psl (u32s c2) c2.length, .sc (.int .i64 e1)] 0 false)) ?_ c1.length _ ⟨[], c1, [], c2, rfl, rfl, rfl, hlen, rfl, rfl, ?_⟩
    · rintro m ⟨T, h, n⟩ ⟨d, r, d2, r2, h1, h2, hdl, hrl, rfl, hs, t2, t3, t5, q0, q1⟩
      simp only at t2 t3 t5 q0 q1
      cases r with
      | nil =>
        have hge : ¬ (d.length : Int) < (c1.length : Int) := by rw [h1]; simp
        refine wB1 (wa t2 (wa t3 (wa t5 (wa q0 (wa q1 hge))))) ?_
        simp only [one1, frz_s, Option.map_some, ← hs]
        rfl
      | cons x r =>
        cases r2 with
        | nil => simp at hrl
        | cons y r2 =>
          have hlt : (d.length : Int) < (c1.length : Int) := by rw [h1]; simp; omega
          have hlt1 : d.length < c1.length := by omega
          have hlt2 : d.length < c2.length := by omega
          have hx : (u32s c1)[d.length * 1]? = some (.sc (.int .u32 x)) := by rw [h1]; simp [u32s]
          have hy : (u32s c2)[d.length * 1]? = some (.sc (.int .u32 y)) := by rw [h2, hdl]; simp [u32s]
          have w1 : IntKind.i64.wrap ((d.length : Int) + 1) = (d.length : Int) + 1 := i64 (by omega) (by omega)
          simp only [sameL] at hs
          by_cases hxy : x = y
          · subst hxy
            refine wB1 (wa t2 (wa t3 (wa t5 (wa q0 (wa q1 (wa hlt (wa hlt1 (wa hlt2 (wa hx (wa hy w1)))))))))) ?_
            refine ⟨r.length, by simp, d ++ [x], r, d2 ++ [x], r2, by simp [h1], by simp [h2], by simp [hdl], by simpa using hrl, rfl, by simpa using hs, ?_, ?_, ?_, q0, q1⟩
            all_goals simp [upd_ap, tAt, t2, t3]
          · refine wB1 (wa t2 (wa t3 (wa t5 (wa q0 (wa q1 (wa hlt (wa hlt1 (wa hlt2 (wa hx (wa hy (wa hxy w1))))))))))) ?_
            simp only [one1, frz_s, Option.map_some, ← hs]
            simp [hxy]
    · simp [upd_ap, argsT]
  · have hD : sameD n1 c1 e1 n2 c2 e2 = false := by
      unfold sameD
      simp
      intro h1 h2 h3
      exact absurd ⟨h1, h2, h3⟩ hc
    rw [hD]
    by_cases hn1 : n1 = n2
    · subst hn1
      have hb : (n1 == n1) = true := by simp
      by_cases he : e1 = e2
      · have hl' : ¬ (c1.length : Int) = (c2.length : Int) := fun e => hc ⟨rfl, he, by omega⟩
        refine Pc_of (Gf_enter (C := Cf G) Tryz.func48 rfl ok48 (Nat.le_of_ble_eq_true rfl) ?_)
        simp only [Tryz.f48, Option.getD_some]
        refine wB1 (wa @hn (wa hb (wa he hl'))) ?_
        simp only [one1, frz_s, Option.map_some]
      · refine Pc_of (Gf_enter (C := Cf G) Tryz.func48 rfl ok48 (Nat.le_of_ble_eq_true rfl) ?_)
        simp only [Tryz.f48, Option.getD_some]
        refine wB1 (wa @hn (wa hb he)) ?_
        simp only [one1, frz_s, Option.map_some]
    · have hb : (n1 == n2) = false := by simp [hn1]
      refine Pc_of (Gf_enter (C := Cf G) Tryz.func48 rfl ok48 (Nat.le_of_ble_eq_true rfl) ?_)
      simp only [Tryz.f48, Option.getD_some]
      refine wB1 (wa @hn hb) ?_
      simp only [one1, frz_s, Option.map_some]
end Go.Proofs.Bv
namespace Go.Proofs.Bv
open Go
theorem ok14 : codeOk 82 (Tryz.f14.body.getD .skip) = true := by kernel_rfl
theorem sameD_self (n : Bool) (c : List Int) (e : Int) : sameD n c e n c e = true := by simp [sameD, sameL_self]
set_option maxHeartbeats 8000000 in
set_option maxRecDepth 100000 in
theorem pc14 (G : Nat → Option (List AV)) : (v : JV) → Fit v → Pc (Cf G) 14 [.agg (enc v), .agg (enc v)] (.sc (.bool true))
  | .mk kk ng cf ex t l ks => fun hfit => by
    have hnl := hfit.1.nlist
    have hnk := hfit.1.nkeys
    have ih : ∀ x ∈ l, Pc (Cf G) 14 [.agg (enc x), .agg (enc x)] (.sc (.bool true)) := fun x hx => pc14 G x (Fits_mem hfit.2 x hx)
    have h48 := pc48 G ng ng cf cf ex ex (by have := hfit.1.ncoef; omega)
    rw [sameD_self] at h48
    have ht : ∀ s : ByteArray, (s.toList == s.toList) = true := fun s => by simp
    refine Pc_of (Gf_enter (C := Cf G) Tryz.func14 rfl ok14 (Nat.le_of_ble_eq_true rfl) ?_)
    simp only [Tryz.f14, Option.getD_some]
    simp only [enc]
    refine wC1 ht (wa h48 trivial) ?_
    refine Gc_loop_inv (fun m st => ∃ d r, ks = d ++ r ∧ m = r.length ∧ st.T 2 = .ptr 0 0 ∧ st.T 3 = .ptr 1 0 ∧ st.T 5 = .sc (.int .i64 d.length) ∧
      st.h 0 = some (.cells [.sc (.int .i64 kk), .sc (.bool ng), .psl (u32s cf) cf.length, .sc (.int .i64 ex), .sc (.string t), .psl (encs l) l.length, .psl (strs ks) ks.length] 0 false) ∧
      st.h 1 = some (.cells [.sc (.int .i64 kk), .sc (.bool ng), .psl (u32s cf) cf.length, .sc (.int .i64 ex), .sc (.string t), .psl (encs l) l.length, .psl (strs ks) ks.length] 0 false)) ?_ ks.length _ ⟨[], ks, rfl, rfl, ?_⟩
    · rintro m ⟨T, h, n⟩ ⟨d, r, hdr, rfl, t2, t3, t5, q0, q1⟩
      simp only at t2 t3 t5 q0 q1
      cases r with
      | nil =>
        have hge : ¬ (d.length : Int) < (ks.length : Int) := by rw [hdr]; simp
        refine wB1 (wa t2 (wa t3 (wa t5 (wa q0 (wa q1 hge))))) ?_
        refine Gc_loop_inv (fun m st => ∃ d r, l = d ++ r ∧ m = r.length ∧ st.T 2 = .ptr 0 0 ∧ st.T 3 = .ptr 1 0 ∧ st.T 6 = .sc (.int .i64 d.length) ∧
          st.h 0 = some (.cells [.sc (.int .i64 kk), .sc (.bool ng), .psl (u32s cf) cf.length, .sc (.int .i64 ex), .sc (.string t), .psl (encs l) l.length, .psl (strs ks) ks.length] 0 false) ∧
          st.h 1 = some (.cells [.sc (.int .i64 kk), .sc (.bool ng), .psl (u32s cf) cf.length, .sc (.int .i64 ex), .sc (.string t), .psl (encs l) l.length, .psl (strs ks) ks.length] 0 false)) ?_ l.length _ ⟨[], l, rfl, rfl, ?_⟩
        · rintro m ⟨T, h, n⟩ ⟨d, r, hdr, rfl, t2, t3, t6, q0, q1⟩
          simp only at t2 t3 t6 q0 q1
          cases r with
          | nil =>
            have hge : ¬ (d.length : Int) < (l.length : Int) := by rw [hdr]; simp
            refine wB1 (wa t2 (wa t3 (wa t6 (wa q0 (wa q1 hge))))) ?_
            simp only [one1, frz_s, Option.map_some]
          | cons x r =>
            have hlt : (d.length : Int) < (l.length : Int) := by rw [hdr]; simp; omega
            have hltn : d.length < l.length := by omega
            have hcut : cut (encs l) (d.length * 7) 7 = enc x := by rw [hdr]; exact cut_encs d x r
            have hle : d.length * 7 + 7 ≤ (encs l).length := by rw [encs_len]; omega
            have hx := ih x (by rw [hdr]; simp)
            have w1 : IntKind.i64.wrap ((d.length : Int) + 1) = (d.length : Int) + 1 := i64 (by omega) (by omega)
            obtain ⟨k', n', c', e', t', l', ks'⟩ := x
            simp only [enc] at hx hcut
            refine wC1 (wa t2 (wa t3 (wa t6 (wa q0 (wa q1 (wa hlt (wa hltn (wa hcut (wa hle w1))))))))) (wa hx trivial) ?_
            refine ⟨r.length, by simp, d ++ [.mk k' n' c' e' t' l' ks'], r, by simp [hdr], rfl, ?_, ?_, ?_, q0, q1⟩
            all_goals simp [upd_ap, tAt, t2, t3]
        · simp [upd_ap, t2, t3, q0, q1]
      | cons k r =>
        have hlt : (d.length : Int) < (ks.length : Int) := by rw [hdr]; simp; omega
        have hltn : d.length < ks.length := by omega
        have hk := strs_at hdr
        have w1 : IntKind.i64.wrap ((d.length : Int) + 1) = (d.length : Int) + 1 := i64 (by omega) (by omega)
        refine wB1 (wa t2 (wa t3 (wa t5 (wa q0 (wa q1 (wa hlt (wa hltn (wa hk (wa w1 ht))))))))) ?_
        refine ⟨r.length, by simp, d ++ [k], r, by simp [hdr], rfl, ?_, ?_, ?_, q0, q1⟩
        all_goals simp [upd_ap, tAt, t2, t3]
    · simp [upd_ap, argsT]
  termination_by v => v
  decreasing_by
    simp_wf
    have := List.sizeOf_lt_of_mem hx
    omega
end Go.Proofs.Bv
namespace Go.Proofs.Bv
open Go
theorem ok125 : codeOk 17 (Tryz.f125.body.getD .skip) = true := by kernel_rfl
theorem ok126 : codeOk 57 (Tryz.f126.body.getD .skip) = true := by kernel_rfl
def mayI (x : Int) : Bool := decide (0 ≤ x ∧ x ≤ 1114111 ∧ (x < 55296 ∨ 57343 < x))
theorem pc125i (G : Nat → Option (List AV)) (x : Int) : Pc (Cf G) 125 [.sc (.int .i64 x)] (.sc (.bool (mayI x))) := by
  refine Pc_of (Gf_enter (C := Cf G) Tryz.func125 rfl ok125 (Nat.le_of_ble_eq_true rfl) ?_)
  simp only [Tryz.f125, Option.getD_some]
  repeat' first | refine w_op rfl rfl ?_ | refine x_p rfl ?_ | refine w_sr ?_ | refine st_nil ?_ | refine w_seq ?_ | refine st_region ?_ | refine st_block ?_ | refine w_cond ?_ | refine b_t ?_ | refine b_f ?_ | refine st_skip ?_ | refine st_exit ?_ | refine st_ret ?_ | refine st_onNormN ?_ | refine st_onNormE ?_ | refine st_onNormR ?_ | refine st_onExitN ?_ | refine st_onExitR ?_ | refine st_onExitS ?_ | refine st_onExitO (by decide) ?_ | refine g_t ?_ | refine g_f rfl ?_ | refine o_op rfl ?_ | refine w_wr ?_ | refine w_wn ?_ | refine d_c rfl ?_ | refine d_on rfl ?_ | refine d_op rfl ?_ | refine d_y ?_ | refine d_gd rfl ?_ | refine d_t ?_ | refine d_f ?_ | refine d_nil ?_ | refine w_dr rfl ?_ | refine d_q ?_ | refine w_gd rfl ?_ | ((first | refine zE1 ?_); (conv => arg 1; try simp only [go_sem, Nat.reduceEqDiff, reduceIte, Nat.reduceAdd, Nat.reduceLeDiff, Nat.reduceMul, Int.reduceEq, Int.reduceLT, Int.reduceLE, Int.reduceNeg, Int.reduceAdd, Int.reduceSub, Nat.reduceLT, Nat.reduceBEq, Nat.reduceSub, Nat.reducePow]); first | refine zE3 ?_ | refine zE2 ?_ | refine zE4 ?_ | refine zE5 ?_ | refine zE6 ?_ | refine zE7 ?_ | refine zE8 ?_) | (refine w_u false ?_; (conv => arg 1; reduce); refine zR1 ?_) | (refine b_s (fun hb => ?_) (fun hb => ?_) <;> ((try simp only [hn1, hn2, hn3, hn4] at hb); first | (exfalso; omega) | skip)) | (first | refine g_s (fun hb => ?_) (fun hb => ?_) | refine d_s (fun hb => ?_) (fun hb => ?_)) <;> ((try simp only [hn1, hn2] at hb); rw [hb]; try simp only [hn3, hn4] at hb)
  all_goals simp only [one1, frz_s, Option.map_some, mayI, Option.some.injEq, AV.sc.injEq, Value.bool.injEq]
  all_goals rw [Bool.eq_iff_iff]
  all_goals simp only [decide_eq_true_eq, Bool.false_eq_true, true_iff, iff_true, false_iff, iff_false]
  all_goals omega
theorem pc125 (G : Nat → Option (List AV)) (n : Nat) : Pc (Cf G) 125 [.sc (.int .i64 n)] (.sc (.bool (mayN n))) := by
  have h := pc125i G n
  have e : mayI n = mayN n := by
    rw [Bool.eq_iff_iff, mayN_iff]
    unfold mayI
    rw [decide_eq_true_eq]
    omega
  rwa [e] at h
def b8s (l : List Nat) : List AV := l.map fun (d : Nat) => AV.sc (.int .u8 (d : Int))
theorem bo1 (a : Int) : fillA (fun i => some (i * 1, 1)) (rep 1 [.sc (.int .u8 0)]) [(0, .sc (.int .u8 a))] = some [.sc (.int .u8 a)] := rfl
theorem bo2 (a b : Int) : fillA (fun i => some (i * 1, 1)) (rep 2 [.sc (.int .u8 0)]) [(0, .sc (.int .u8 a)), (1, .sc (.int .u8 b))] = some [.sc (.int .u8 a), .sc (.int .u8 b)] := rfl
theorem bo3 (a b c : Int) : fillA (fun i => some (i * 1, 1)) (rep 3 [.sc (.int .u8 0)]) [(0, .sc (.int .u8 a)), (1, .sc (.int .u8 b)), (2, .sc (.int .u8 c))] = some [.sc (.int .u8 a), .sc (.int .u8 b), .sc (.int .u8 c)] := rfl
theorem bo4 (a b c d : Int) : fillA (fun i => some (i * 1, 1)) (rep 4 [.sc (.int .u8 0)]) [(0, .sc (.int .u8 a)), (1, .sc (.int .u8 b)), (2, .sc (.int .u8 c)), (3, .sc (.int .u8 d))] = some [.sc (.int .u8 a), .sc (.int .u8 b), .sc (.int .u8 c), .sc (.int .u8 d)] := rfl
set_option maxHeartbeats 2000000 in
set_option maxRecDepth 100000 in
theorem pc126 (G : Nat → Option (List AV)) (n : Nat) (hn : n ≤ 1114111) : Pc (Cf G) 126 [.sc (.int .i64 n)] (.psl (b8s (octN n)) (octN n).length) := by
  have q : ∀ d : Nat, 0 < d → IntKind.i64.wrap ((n : Int).tdiv (d : Int)) = ((n / d : Nat) : Int) := fun d hd => by
    rw [Int.tdiv_eq_ediv_of_nonneg (by omega)]
    have e : (n : Int) / (d : Int) = ((n / d : Nat) : Int) := by simp
    have : n / d ≤ n := Nat.div_le_self n d
    rw [e]
    generalize n / d = m at this ⊢
    rw [i64 (by omega) (by omega)]
  have q1 : IntKind.i64.wrap ((n : Int).tdiv 64) = ((n / 64 : Nat) : Int) := q 64 (by omega)
  have q2 : IntKind.i64.wrap ((n : Int).tdiv 4096) = ((n / 4096 : Nat) : Int) := q 4096 (by omega)
  have q3 : IntKind.i64.wrap ((n : Int).tdiv 262144) = ((n / 262144 : Nat) : Int) := q 262144 (by omega)
  have r : ∀ m : Nat, (m : Int).tmod 64 = ((m % 64 : Nat) : Int) := fun m => by rw [Int.tmod_eq_emod_of_nonneg (by omega)]; omega
  have a1 : ∀ m : Nat, m ≤ 1114111 → IntKind.i64.wrap (128 + ((m : Nat) : Int)) = ((128 + m : Nat) : Int) := fun m hm => by rw [i64 (by omega) (by omega)]; omega
  have u : ∀ m : Nat, m ≤ 255 → IntKind.u8.wrap (m : Int) = (m : Int) := fun m hm => IntWalk.u8_in _ (by omega)
  have a2 : IntKind.i64.wrap (192 + ((n / 64 : Nat) : Int)) = ((192 + n / 64 : Nat) : Int) := by rw [i64 (by omega) (by omega)]; omega
  have a3 : IntKind.i64.wrap (224 + ((n / 4096 : Nat) : Int)) = ((224 + n / 4096 : Nat) : Int) := by rw [i64 (by omega) (by omega)]; omega
  have a4 : IntKind.i64.wrap (240 + ((n / 262144 : Nat) : Int)) = ((240 + n / 262144 : Nat) : Int) := by rw [i64 (by omega) (by omega)]; omega
  have c1 := a1 (n % 64) (by omega)
  have c2 := a1 (n / 64 % 64) (by omega)
  have c3 := a1 (n / 4096 % 64) (by omega)
  have v1 := u (128 + n % 64) (by omega)
  have v2 := u (128 + n / 64 % 64) (by omega)
  have v3 := u (128 + n / 4096 % 64) (by omega)
  refine Pc_of (Gf_enter (C := Cf G) Tryz.func126 rfl ok126 (Nat.le_of_ble_eq_true rfl) ?_)
  simp only [Tryz.f126, Option.getD_some]
  by_cases h1 : n < 128
  · have g1 : (n : Int) < 128 := by omega
    have v0 := u n (by omega)
    repeat' first | refine w_op rfl rfl ?_ | refine x_p rfl ?_ | refine w_sr ?_ | refine st_nil ?_ | refine w_seq ?_ | refine st_region ?_ | refine st_block ?_ | refine w_cond ?_ | refine b_t ?_ | refine b_f ?_ | refine st_skip ?_ | refine st_exit ?_ | refine st_ret ?_ | refine st_onNormN ?_ | refine st_onNormE ?_ | refine st_onNormR ?_ | refine st_onExitN ?_ | refine st_onExitR ?_ | refine st_onExitS ?_ | refine st_onExitO (by decide) ?_ | refine g_t ?_ | refine g_f rfl ?_ | refine o_op rfl ?_ | refine w_wr ?_ | refine w_wn ?_ | refine d_c rfl ?_ | refine d_on rfl ?_ | refine d_op rfl ?_ | refine d_y ?_ | refine d_gd rfl ?_ | refine d_t ?_ | refine d_f ?_ | refine d_nil ?_ | refine w_dr rfl ?_ | refine d_q ?_ | refine w_gd rfl ?_ | ((first | refine zE1 ?_); (conv => arg 1; try simp only [go_sem, Nat.reduceEqDiff, reduceIte, Nat.reduceAdd, Nat.reduceLeDiff, Nat.reduceMul, Int.reduceEq, Int.reduceLT, Int.reduceLE, Int.reduceNeg, Int.reduceAdd, Int.reduceSub, Nat.reduceLT, Nat.reduceBEq, Nat.reduceSub, Nat.reducePow, g1, v0, bo1]); first | refine zE3 ?_ | refine zE2 ?_ | refine zE4 ?_ | refine zE5 ?_ | refine zE6 ?_ | refine zE7 ?_ | refine zE8 ?_) | (refine w_u false ?_; (conv => arg 1; reduce); refine zR1 ?_) | (refine b_s (fun hb => ?_) (fun hb => ?_) <;> ((try simp only [hn1, hn2, hn3, hn4] at hb); first | (exfalso; omega) | skip)) | (first | refine g_s (fun hb => ?_) (fun hb => ?_) | refine d_s (fun hb => ?_) (fun hb => ?_)) <;> ((try simp only [hn1, hn2] at hb); rw [hb]; try simp only [hn3, hn4] at hb)
    simp only [one1, octN, if_pos h1]
    rfl
  · have g1 : ¬ (n : Int) < 128 := by omega
    by_cases h2 : n < 2048
    · have g2 : (n : Int) < 2048 := by omega
      have v4 := u (192 + n / 64) (by omega)
      repeat' first | refine w_op rfl rfl ?_ | refine x_p rfl ?_ | refine w_sr ?_ | refine st_nil ?_ | refine w_seq ?_ | refine st_region ?_ | refine st_block ?_ | refine w_cond ?_ | refine b_t ?_ | refine b_f ?_ | refine st_skip ?_ | refine st_exit ?_ | refine st_ret ?_ | refine st_onNormN ?_ | refine st_onNormE ?_ | refine st_onNormR ?_ | refine st_onExitN ?_ | refine st_onExitR ?_ | refine st_onExitS ?_ | refine st_onExitO (by decide) ?_ | refine g_t ?_ | refine g_f rfl ?_ | refine o_op rfl ?_ | refine w_wr ?_ | refine w_wn ?_ | refine d_c rfl ?_ | refine d_on rfl ?_ | refine d_op rfl ?_ | refine d_y ?_ | refine d_gd rfl ?_ | refine d_t ?_ | refine d_f ?_ | refine d_nil ?_ | refine w_dr rfl ?_ | refine d_q ?_ | refine w_gd rfl ?_ | ((first | refine zE1 ?_); (conv => arg 1; try simp only [go_sem, Nat.reduceEqDiff, reduceIte, Nat.reduceAdd, Nat.reduceLeDiff, Nat.reduceMul, Int.reduceEq, Int.reduceLT, Int.reduceLE, Int.reduceNeg, Int.reduceAdd, Int.reduceSub, Nat.reduceLT, Nat.reduceBEq, Nat.reduceSub, Nat.reducePow, g1, g2, q1, r, a2, c1, v1, v4, bo2]); first | refine zE3 ?_ | refine zE2 ?_ | refine zE4 ?_ | refine zE5 ?_ | refine zE6 ?_ | refine zE7 ?_ | refine zE8 ?_) | (refine w_u false ?_; (conv => arg 1; reduce); refine zR1 ?_) | (refine b_s (fun hb => ?_) (fun hb => ?_) <;> ((try simp only [hn1, hn2, hn3, hn4] at hb); first | (exfalso; omega) | skip)) | (first | refine g_s (fun hb => ?_) (fun hb => ?_) | refine d_s (fun hb => ?_) (fun hb => ?_)) <;> ((try simp only [hn1, hn2] at hb); rw [hb]; try simp only [hn3, hn4] at hb)
      simp only [one1, octN, if_neg h1, if_pos h2]
      rfl
    · have g2 : ¬ (n : Int) < 2048 := by omega
      by_cases h3 : n < 65536
      · have g3 : (n : Int) < 65536 := by omega
        have v5 := u (224 + n / 4096) (by omega)
        repeat' first | refine w_op rfl rfl ?_ | refine x_p rfl ?_ | refine w_sr ?_ | refine st_nil ?_ | refine w_seq ?_ | refine st_region ?_ | refine st_block ?_ | refine w_cond ?_ | refine b_t ?_ | refine b_f ?_ | refine st_skip ?_ | refine st_exit ?_ | refine st_ret ?_ | refine st_onNormN ?_ | refine st_onNormE ?_ | refine st_onNormR ?_ | refine st_onExitN ?_ | refine st_onExitR ?_ | refine st_onExitS ?_ | refine st_onExitO (by decide) ?_ | refine g_t ?_ | refine g_f rfl ?_ | refine o_op rfl ?_ | refine w_wr ?_ | refine w_wn ?_ | refine d_c rfl ?_ | refine d_on rfl ?_ | refine d_op rfl ?_ | refine d_y ?_ | refine d_gd rfl ?_ | refine d_t ?_ | refine d_f ?_ | refine d_nil ?_ | refine w_dr rfl ?_ | refine d_q ?_ | refine w_gd rfl ?_ | ((first | refine zE1 ?_); (conv => arg 1; try simp only [go_sem, Nat.reduceEqDiff, reduceIte, Nat.reduceAdd, Nat.reduceLeDiff, Nat.reduceMul, Int.reduceEq, Int.reduceLT, Int.reduceLE, Int.reduceNeg, Int.reduceAdd, Int.reduceSub, Nat.reduceLT, Nat.reduceBEq, Nat.reduceSub, Nat.reducePow, g1, g2, g3, q1, q2, r, a3, c1, c2, v1, v2, v5, bo3]); first | refine zE3 ?_ | refine zE2 ?_ | refine zE4 ?_ | refine zE5 ?_ | refine zE6 ?_ | refine zE7 ?_ | refine zE8 ?_) | (refine w_u false ?_; (conv => arg 1; reduce); refine zR1 ?_) | (refine b_s (fun hb => ?_) (fun hb => ?_) <;> ((try simp only [hn1, hn2, hn3, hn4] at hb); first | (exfalso; omega) | skip)) | (first | refine g_s (fun hb => ?_) (fun hb => ?_) | refine d_s (fun hb => ?_) (fun hb => ?_)) <;> ((try simp only [hn1, hn2] at hb); rw [hb]; try simp only [hn3, hn4] at hb)
        simp only [one1, octN, if_neg h1, if_neg h2, if_pos h3]
        rfl
      · have g3 : ¬ (n : Int) < 65536 := by omega
        have v6 := u (240 + n / 262144) (by omega)
        repeat' first | refine w_op rfl rfl ?_ | refine x_p rfl ?_ | refine w_sr ?_ | refine st_nil ?_ | refine w_seq ?_ | refine st_region ?_ | refine st_block ?_ | refine w_cond ?_ | refine b_t ?_ | refine b_f ?_ | refine st_skip ?_ | refine st_exit ?_ | refine st_ret ?_ | refine st_onNormN ?_ | refine st_onNormE ?_ | refine st_onNormR ?_ | refine st_onExitN ?_ | refine st_onExitR ?_ | refine st_onExitS ?_ | refine st_onExitO (by decide) ?_ | refine g_t ?_ | refine g_f rfl ?_ | refine o_op rfl ?_ | refine w_wr ?_ | refine w_wn ?_ | refine d_c rfl ?_ | refine d_on rfl ?_ | refine d_op rfl ?_ | refine d_y ?_ | refine d_gd rfl ?_ | refine d_t ?_ | refine d_f ?_ | refine d_nil ?_ | refine w_dr rfl ?_ | refine d_q ?_ | refine w_gd rfl ?_ | ((first | refine zE1 ?_); (conv => arg 1; try simp only [go_sem, Nat.reduceEqDiff, reduceIte, Nat.reduceAdd, Nat.reduceLeDiff, Nat.reduceMul, Int.reduceEq, Int.reduceLT, Int.reduceLE, Int.reduceNeg, Int.reduceAdd, Int.reduceSub, Nat.reduceLT, Nat.reduceBEq, Nat.reduceSub, Nat.reducePow, g1, g2, g3, q1, q2, q3, r, a4, c1, c2, c3, v1, v2, v3, v6, bo4]); first | refine zE3 ?_ | refine zE2 ?_ | refine zE4 ?_ | refine zE5 ?_ | refine zE6 ?_ | refine zE7 ?_ | refine zE8 ?_) | (refine w_u false ?_; (conv => arg 1; reduce); refine zR1 ?_) | (refine b_s (fun hb => ?_) (fun hb => ?_) <;> ((try simp only [hn1, hn2, hn3, hn4] at hb); first | (exfalso; omega) | skip)) | (first | refine g_s (fun hb => ?_) (fun hb => ?_) | refine d_s (fun hb => ?_) (fun hb => ?_)) <;> ((try simp only [hn1, hn2] at hb); rw [hb]; try simp only [hn3, hn4] at hb)
        simp only [one1, octN, if_neg h1, if_neg h2, if_neg h3]
        rfl
theorem ok124 : codeOk 61 (Tryz.f124.body.getD .skip) = true := by kernel_rfl
def bAt (s : ByteArray) (i : Nat) : Nat := (s.get! i).toNat
def firstS (s : ByteArray) : Nat × Nat := firstN s.size (bAt s 0) (bAt s 1) (bAt s 2) (bAt s 3)
theorem bAt_lt (s : ByteArray) (i : Nat) : bAt s i < 256 := UInt8.toNat_lt _
theorem data_at {s : ByteArray} {i : Nat} (h : i < s.size) : (s.data[i]?).map (fun b => AV.sc (.int .u8 (b.toNat : Int))) = some (AV.sc (.int .u8 (bAt s i : Int))) := by
  have h' : i < s.data.size := h
  rw [Array.getElem?_eq_getElem h']
  simp only [Option.map_some, bAt]
  congr 4
  simp only [ByteArray.get!]
  rw [getElem!_pos s.data i h']
theorem bytesOf_b8s : {l : List Nat} → (∀ d ∈ l, d < 256) → bytesOf (b8s l) = some (l.map UInt8.ofNat)
  | [], _ => rfl
  | d :: l, h => by
    have ih := bytesOf_b8s (l := l) fun x hx => h x (List.mem_cons_of_mem _ hx)
    have hd := h d (by simp)
    have e : b8s (d :: l) = .sc (.int .u8 (d : Int)) :: b8s l := rfl
    rw [e, bytesOf]
    have e2 : byteOf (.sc (.int .u8 (d : Int))) = some (UInt8.ofNat d) := by
      simp only [byteOf]
      rw [if_pos (by omega)]
      rfl
    rw [e2, ih]
    rfl
theorem octN_lt (n : Nat) (hn : n ≤ 1114111) : ∀ d ∈ octN n, d < 256 := by
  unfold octN
  intro d hd
  repeat' split at hd
  all_goals (simp at hd; omega)
end Go.Proofs.Bv
namespace Go.Proofs.Bv
open Go
theorem ok173 : codeOk 17 (Tryz.f173.body.getD .skip) = true := by kernel_rfl
theorem ok112 : codeOk 14 (Tryz.f112.body.getD .skip) = true := by kernel_rfl
theorem ok174 : codeOk 78 (Tryz.f174.body.getD .skip) = true := by kernel_rfl
theorem ok113 : codeOk 16 (Tryz.f113.body.getD .skip) = true := by kernel_rfl
theorem i32 {x : Int} (h1 : -2147483648 ≤ x) (h2 : x ≤ 2147483647) : IntKind.i32.wrap x = x := IntWalk.i32_in x ⟨h1, h2⟩
section
variable {P : Program} {t : TypeId} {xo yo : Operand}
theorem ev_sr6 {yk : IntKind} {a : Int} : vbin P .shr t xo yo (.sc (.int .i32 a)) (.sc (.int yk 6)) = some (.sc (.int .i32 (a / 64))) := by
  rw [ev_shr (by omega)]
  have : ((2 : Int) ^ (min (6 : Int).toNat IntKind.i32.bits)) = 64 := by decide
  rw [this, Int.fdiv_eq_ediv_of_nonneg _ (by omega)]
theorem ev_sr12 {yk : IntKind} {a : Int} : vbin P .shr t xo yo (.sc (.int .i32 a)) (.sc (.int yk 12)) = some (.sc (.int .i32 (a / 4096))) := by
  rw [ev_shr (by omega)]
  have : ((2 : Int) ^ (min (12 : Int).toNat IntKind.i32.bits)) = 4096 := by decide
  rw [this, Int.fdiv_eq_ediv_of_nonneg _ (by omega)]
theorem ev_sr18 {yk : IntKind} {a : Int} : vbin P .shr t xo yo (.sc (.int .i32 a)) (.sc (.int yk 18)) = some (.sc (.int .i32 (a / 262144))) := by
  rw [ev_shr (by omega)]
  have : ((2 : Int) ^ (min (18 : Int).toNat IntKind.i32.bits)) = 262144 := by decide
  rw [this, Int.fdiv_eq_ediv_of_nonneg _ (by omega)]
end
attribute [go_sem] ev_sr6 ev_sr12 ev_sr18
set_option maxRecDepth 100000 in
theorem or192 : ∀ a : Nat, a < 32 → IntKind.u8.wrap ((BitVec.ofInt 8 192 ||| BitVec.ofInt 8 (a : Int)).toNat : Int) = ((192 + a : Nat) : Int) := by decide +kernel
set_option maxRecDepth 100000 in
theorem or224 : ∀ a : Nat, a < 16 → IntKind.u8.wrap ((BitVec.ofInt 8 224 ||| BitVec.ofInt 8 (a : Int)).toNat : Int) = ((224 + a : Nat) : Int) := by decide +kernel
set_option maxRecDepth 100000 in
theorem or240 : ∀ a : Nat, a < 8 → IntKind.u8.wrap ((BitVec.ofInt 8 240 ||| BitVec.ofInt 8 (a : Int)).toNat : Int) = ((240 + a : Nat) : Int) := by decide +kernel
set_option maxRecDepth 100000 in
theorem or128 : ∀ a : Nat, a < 64 → IntKind.u8.wrap ((BitVec.ofInt 8 128 ||| BitVec.ofInt 8 (a : Int)).toNat : Int) = ((128 + a : Nat) : Int) := by decide +kernel
set_option maxRecDepth 100000 in
theorem and63 : ∀ a : Nat, a < 256 → IntKind.u8.wrap ((BitVec.ofInt 8 (a : Int) &&& BitVec.ofInt 8 63).toNat : Int) = ((a % 64 : Nat) : Int) := by decide +kernel
theorem u8w (n k : Nat) : IntKind.u8.wrap ((n : Int) / (k : Int)) = ((n / k % 256 : Nat) : Int) := by
  have : ((n : Int) / (k : Int)) = ((n / k : Nat) : Int) := by simp
  rw [this]
  show ((BitVec.ofInt 8 ((n / k : Nat) : Int)).toNat : Int) = _
  rw [BitVec.toNat_ofInt]
  omega
theorem u8w1 (n : Nat) : IntKind.u8.wrap (n : Int) = ((n % 256 : Nat) : Int) := by
  show ((BitVec.ofInt 8 (n : Int)).toNat : Int) = _
  rw [BitVec.toNat_ofInt]
  omega
theorem pc173 (G : Nat → Option (List AV)) (n : Nat) (h : mayN n = true) : Pc (Cf G) 173 [.sc (.int .i32 n)] (.sc (.bool true)) := by
  rw [mayN_iff] at h
  by_cases h1 : n < 55296
  · have q1 : (0 : Int) ≤ (n : Int) := by omega
    have q2 : (n : Int) < 55296 := by omega
    refine Pc_of (Gf_enter (C := Cf G) Tryz.func173 rfl ok173 (Nat.le_of_ble_eq_true rfl) ?_)
    simp only [Tryz.f173, Option.getD_some]
    refine wB1 (wa q1 q2) ?_
    simp only [one1, frz_s, Option.map_some]
  · have q1 : (0 : Int) ≤ (n : Int) := by omega
    have q2 : ¬ (n : Int) < 55296 := by omega
    have q3 : 57343 < (n : Int) := by omega
    have q4 : (n : Int) ≤ 1114111 := by omega
    refine Pc_of (Gf_enter (C := Cf G) Tryz.func173 rfl ok173 (Nat.le_of_ble_eq_true rfl) ?_)
    simp only [Tryz.f173, Option.getD_some]
    refine wB1 (wa q1 (wa q2 (wa q3 q4))) ?_
    simp only [one1, frz_s, Option.map_some]
theorem pc112 (G : Nat → Option (List AV)) (n : Nat) (h : mayN n = true) : Pc (Cf G) 112 [.sc (.int .i64 n)] (.sc (.bool true)) := by
  have h1 := pc173 G n h
  rw [mayN_iff] at h
  have q1 : (0 : Int) ≤ (n : Int) := by omega
  have q4 : (n : Int) ≤ 1114111 := by omega
  have w : IntKind.i32.wrap (n : Int) = n := i32 (by omega) (by omega)
  refine Pc_of (Gf_enter (C := Cf G) Tryz.func112 rfl ok112 (Nat.le_of_ble_eq_true rfl) ?_)
  simp only [Tryz.f112, Option.getD_some]
  refine wC1 (wa q1 (wa q4 w)) (wa h1 trivial) ?_
  simp only [one1, frz_s, Option.map_some]
theorem b8s_2 {x y : Int} {a b : Nat} (h1 : x = a) (h2 : y = b) : [AV.sc (.int .u8 x), .sc (.int .u8 y)] = b8s [a, b] := by subst h1; subst h2; rfl
theorem b8s_3 {x y z : Int} {a b c : Nat} (h1 : x = a) (h2 : y = b) (h3 : z = c) : [AV.sc (.int .u8 x), .sc (.int .u8 y), .sc (.int .u8 z)] = b8s [a, b, c] := by subst h1; subst h2; subst h3; rfl
theorem b8s_4 {x y z u : Int} {a b c d : Nat} (h1 : x = a) (h2 : y = b) (h3 : z = c) (h4 : u = d) : [AV.sc (.int .u8 x), .sc (.int .u8 y), .sc (.int .u8 z), .sc (.int .u8 u)] = b8s [a, b, c, d] := by subst h1; subst h2; subst h3; subst h4; rfl
def OwnB (x : AV) (h : Heap) (n lo : Nat) (l : List Nat) : Prop := (x = .nilS ∧ l = []) ∨ ∃ b, x = .osl b 0 l.length ∧ h b = some (.cells (b8s l) 1 false) ∧ lo ≤ b ∧ b < n
theorem b8s_len (l : List Nat) : (b8s l).length = l.length := by simp [b8s]
theorem b8s_app (a b : List Nat) : b8s (a ++ b) = b8s a ++ b8s b := by simp [b8s]
set_option maxHeartbeats 4000000 in
set_option maxRecDepth 100000 in
theorem gf174 (G : Nat → Option (List AV)) (x : AV) {h : Heap} {n lo : Nat} (l : List Nat) (r : Nat) (hx : OwnB x h n lo l) (hr : mayN r = true) (hr1 : ¬ r < 128) (hlo : lo ≤ n) (hl : l.length ≤ 1000000) (K : AV → Heap → Nat → Prop)
    (hK : ∀ x' h' n', n ≤ n' → (∀ q, q < lo → h' q = h q) → OwnB x' h' n' lo (l ++ octN r) → K x' h' n') : Gf (C2 G) 174 [x, .sc (.int .i32 r)] h n K := by
  rw [mayN_iff] at hr
  have w1 : IntKind.u32.wrap (r : Int) = r := IntWalk.u32_in r ⟨by omega, by omega⟩
  have c0 := u8w1 r
  have c6 : IntKind.u8.wrap ((r : Int) / 64) = ((r / 64 % 256 : Nat) : Int) := u8w r 64
  have c12 : IntKind.u8.wrap ((r : Int) / 4096) = ((r / 4096 % 256 : Nat) : Int) := u8w r 4096
  have c18 : IntKind.u8.wrap ((r : Int) / 262144) = ((r / 262144 % 256 : Nat) : Int) := u8w r 262144
  have a0 := and63 (r % 256) (by omega)
  have a6 := and63 (r / 64 % 256) (by omega)
  have a12 := and63 (r / 4096 % 256) (by omega)
  have o0 := or128 (r % 256 % 64) (by omega)
  have o6 := or128 (r / 64 % 256 % 64) (by omega)
  have o12 := or128 (r / 4096 % 256 % 64) (by omega)
  have e0 : r % 256 % 64 = r % 64 := by omega
  have e6 : r / 64 % 256 % 64 = r / 64 % 64 := by omega
  have e12 : r / 4096 % 256 % 64 = r / 4096 % 64 := by omega
  rw [e0] at a0 o0
  rw [e6] at a6 o6
  rw [e12] at a12 o12
  have Y0 : IntKind.u8.wrap ((BitVec.ofInt 8 128 ||| BitVec.ofInt 8 (IntKind.u8.wrap ((BitVec.ofInt 8 ((r % 256 : Nat) : Int) &&& BitVec.ofInt 8 63).toNat : Int))).toNat : Int) = ((128 + r % 64 : Nat) : Int) := by rw [a0, o0]
  have Y6 : IntKind.u8.wrap ((BitVec.ofInt 8 128 ||| BitVec.ofInt 8 (IntKind.u8.wrap ((BitVec.ofInt 8 ((r / 64 % 256 : Nat) : Int) &&& BitVec.ofInt 8 63).toNat : Int))).toNat : Int) = ((128 + r / 64 % 64 : Nat) : Int) := by rw [a6, o6]
  have Y12 : IntKind.u8.wrap ((BitVec.ofInt 8 128 ||| BitVec.ofInt 8 (IntKind.u8.wrap ((BitVec.ofInt 8 ((r / 4096 % 256 : Nat) : Int) &&& BitVec.ofInt 8 63).toNat : Int))).toNat : Int) = ((128 + r / 4096 % 64 : Nat) : Int) := by rw [a12, o12]
  have e12' : r / 64 / 64 = r / 4096 := by omega
  have g3 : l.length * 1 ≤ (b8s l).length := by rw [b8s_len]; omega
  have g4 : cut (b8s l) 0 (l.length * 1) = b8s l := by rw [cut, List.drop_zero, Nat.mul_one, List.take_of_length_le (by rw [b8s_len]; omega)]
  have fin : ∀ h' m, m = l.length + (octN r).length → h' (n + 1) = some (.cells (b8s (l ++ octN r)) 1 false) → (∀ q, q < lo → h' q = h q) → K (.osl (n + 1) 0 m) h' (n + 2) := fun h' m e1 e2 e3 =>
    hK _ h' (n + 2) (by omega) e3 (.inr ⟨n + 1, by rw [List.length_append, e1], e2, by omega, by omega⟩)
  have hn1 : ¬ n = n + 1 := by omega
  have hn2 : ¬ n + 1 = n := by omega
  by_cases h1 : r < 2048
  · have q1 : (r : Int) ≤ 2047 := by omega
    have p6 := or192 (r / 64 % 256) (by omega)
    have p6' : r / 64 % 256 = r / 64 := by omega
    rw [p6'] at p6 c6
    have hoct : octN r = [192 + r / 64, 128 + r % 64] := by unfold octN; rw [if_neg hr1, if_pos h1]
    have g1 : (l.length + 2) * 1 ≤ 140737488355328 := by omega
    have g2 : l.length + 2 ≤ 140737488355328 := by omega
    rcases hx with ⟨rfl, rfl⟩ | ⟨b, rfl, hb, hb1, hb2⟩
    · refine Gf_enter (C := C2 G) Tryz.func174 rfl ok174 (Nat.le_of_ble_eq_true rfl) ?_
      simp only [Tryz.f174, Option.getD_some]
      refine wB1 (wa w1 (wa c0 (wa c6 (wa q1 @bo2)))) ?_
      refine fin _ _ (by rw [hoct]; rfl) (by simp only [upd_ap, if_true]; rw [hoct, b8s_app]; exact congrArg (fun z => some (Blk.cells ( z) 1 false)) (b8s_2 p6 Y0)) (fun q hq => ?_)
      have y1 : ¬ q = n := by omega
      have y2 : ¬ q = n + 1 := by omega
      simp [upd_ap, y1, y2]
    · have z1 : ¬ b = n := by omega
      have z2 : ¬ b = n + 1 := by omega
      have z3 : ¬ n = b := by omega
      refine Gf_enter (C := C2 G) Tryz.func174 rfl ok174 (Nat.le_of_ble_eq_true rfl) ?_
      simp only [Tryz.f174, Option.getD_some]
      refine wB1 (wa w1 (wa c0 (wa c6 (wa q1 (wa @bo2 (wa hb (wa z1 (wa z2 (wa z3 (wa g1 (wa g2 (wa g3 g4)))))))))))) ?_
      refine fin _ _ (by rw [hoct]; rfl) (by simp only [upd_ap, if_true]; rw [hoct, b8s_app]; exact congrArg (fun z => some (Blk.cells (b8s l ++ z) 1 false)) (b8s_2 p6 Y0)) (fun q hq => ?_)
      have y1 : ¬ q = n := by omega
      have y2 : ¬ q = n + 1 := by omega
      have y3 : ¬ q = b := by omega
      simp [upd_ap, y1, y2, y3]
  · have q1 : ¬ (r : Int) ≤ 2047 := by omega
    by_cases h2 : r < 65536
    · have q3 : (r : Int) ≤ 65535 := by omega
      have p12 := or224 (r / 4096 % 256) (by omega)
      have p12' : r / 4096 % 256 = r / 4096 := by omega
      rw [p12'] at p12 c12
      have hoct : octN r = [224 + r / 4096, 128 + r / 64 % 64, 128 + r % 64] := by unfold octN; rw [if_neg hr1, if_neg h1, if_pos h2]
      by_cases h3 : r < 55296
      · have q2 : (r : Int) < 55296 := by omega
        have g1 : (l.length + 3) * 1 ≤ 140737488355328 := by omega
        have g2 : l.length + 3 ≤ 140737488355328 := by omega
        rcases hx with ⟨rfl, rfl⟩ | ⟨b, rfl, hb, hb1, hb2⟩
        · refine Gf_enter (C := C2 G) Tryz.func174 rfl ok174 (Nat.le_of_ble_eq_true rfl) ?_
          simp only [Tryz.f174, Option.getD_some]
          refine wB1 (wa w1 (wa c0 (wa c6 (wa c12 (wa q1 (wa q2 @bo3)))))) ?_
          refine fin _ _ (by rw [hoct]; rfl) (by simp only [upd_ap, if_true]; rw [hoct, b8s_app]; exact congrArg (fun z => some (Blk.cells ( z) 1 false)) (b8s_3 p12 Y6 Y0)) (fun q hq => ?_)
          have y1 : ¬ q = n := by omega
          have y2 : ¬ q = n + 1 := by omega
          simp [upd_ap, y1, y2]
        · have z1 : ¬ b = n := by omega
          have z2 : ¬ b = n + 1 := by omega
          have z3 : ¬ n = b := by omega
          refine Gf_enter (C := C2 G) Tryz.func174 rfl ok174 (Nat.le_of_ble_eq_true rfl) ?_
          simp only [Tryz.f174, Option.getD_some]
          refine wB1 (wa w1 (wa c0 (wa c6 (wa c12 (wa q1 (wa q2 (wa @bo3 (wa hb (wa z1 (wa z2 (wa z3 (wa g1 (wa g2 (wa g3 g4)))))))))))))) ?_
          refine fin _ _ (by rw [hoct]; rfl) (by simp only [upd_ap, if_true]; rw [hoct, b8s_app]; exact congrArg (fun z => some (Blk.cells (b8s l ++ z) 1 false)) (b8s_3 p12 Y6 Y0)) (fun q hq => ?_)
          have y1 : ¬ q = n := by omega
          have y2 : ¬ q = n + 1 := by omega
          have y3 : ¬ q = b := by omega
          simp [upd_ap, y1, y2, y3]
      · have q2 : ¬ (r : Int) < 55296 := by omega
        have q4 : 57343 < (r : Int) := by omega
        have g1 : (l.length + 3) * 1 ≤ 140737488355328 := by omega
        have g2 : l.length + 3 ≤ 140737488355328 := by omega
        rcases hx with ⟨rfl, rfl⟩ | ⟨b, rfl, hb, hb1, hb2⟩
        · refine Gf_enter (C := C2 G) Tryz.func174 rfl ok174 (Nat.le_of_ble_eq_true rfl) ?_
          simp only [Tryz.f174, Option.getD_some]
          refine wB1 (wa w1 (wa c0 (wa c6 (wa c12 (wa q1 (wa q2 (wa q3 (wa q4 @bo3)))))))) ?_
          refine fin _ _ (by rw [hoct]; rfl) (by simp only [upd_ap, if_true]; rw [hoct, b8s_app]; exact congrArg (fun z => some (Blk.cells ( z) 1 false)) (b8s_3 p12 Y6 Y0)) (fun q hq => ?_)
          have y1 : ¬ q = n := by omega
          have y2 : ¬ q = n + 1 := by omega
          simp [upd_ap, y1, y2]
        · have z1 : ¬ b = n := by omega
          have z2 : ¬ b = n + 1 := by omega
          have z3 : ¬ n = b := by omega
          refine Gf_enter (C := C2 G) Tryz.func174 rfl ok174 (Nat.le_of_ble_eq_true rfl) ?_
          simp only [Tryz.f174, Option.getD_some]
          refine wB1 (wa w1 (wa c0 (wa c6 (wa c12 (wa q1 (wa q2 (wa q3 (wa q4 (wa @bo3 (wa hb (wa z1 (wa z2 (wa z3 (wa g1 (wa g2 (wa g3 g4)))))))))))))))) ?_
          refine fin _ _ (by rw [hoct]; rfl) (by simp only [upd_ap, if_true]; rw [hoct, b8s_app]; exact congrArg (fun z => some (Blk.cells (b8s l ++ z) 1 false)) (b8s_3 p12 Y6 Y0)) (fun q hq => ?_)
          have y1 : ¬ q = n := by omega
          have y2 : ¬ q = n + 1 := by omega
          have y3 : ¬ q = b := by omega
          simp [upd_ap, y1, y2, y3]
    · have q2 : ¬ (r : Int) < 55296 := by omega
      have q4 : 57343 < (r : Int) := by omega
      have q3 : ¬ (r : Int) ≤ 65535 := by omega
      have q5 : 65535 < (r : Int) := by omega
      have q6 : (r : Int) ≤ 1114111 := by omega
      have p18 := or240 (r / 262144 % 256) (by omega)
      have p18' : r / 262144 % 256 = r / 262144 := by omega
      rw [p18'] at p18 c18
      have hoct : octN r = [240 + r / 262144, 128 + r / 4096 % 64, 128 + r / 64 % 64, 128 + r % 64] := by unfold octN; rw [if_neg hr1, if_neg h1, if_neg h2]
      have g1 : (l.length + 4) * 1 ≤ 140737488355328 := by omega
      have g2 : l.length + 4 ≤ 140737488355328 := by omega
      rcases hx with ⟨rfl, rfl⟩ | ⟨b, rfl, hb, hb1, hb2⟩
      · refine Gf_enter (C := C2 G) Tryz.func174 rfl ok174 (Nat.le_of_ble_eq_true rfl) ?_
        simp only [Tryz.f174, Option.getD_some]
        refine wB1 (wa w1 (wa c0 (wa c6 (wa c12 (wa c18 (wa q1 (wa q2 (wa q3 (wa q4 (wa q5 (wa q6 @bo4))))))))))) ?_
        refine fin _ _ (by rw [hoct]; rfl) (by simp only [upd_ap, if_true]; rw [hoct, b8s_app]; exact congrArg (fun z => some (Blk.cells ( z) 1 false)) (b8s_4 p18 Y12 Y6 Y0)) (fun q hq => ?_)
        have y1 : ¬ q = n := by omega
        have y2 : ¬ q = n + 1 := by omega
        simp [upd_ap, y1, y2]
      · have z1 : ¬ b = n := by omega
        have z2 : ¬ b = n + 1 := by omega
        have z3 : ¬ n = b := by omega
        refine Gf_enter (C := C2 G) Tryz.func174 rfl ok174 (Nat.le_of_ble_eq_true rfl) ?_
        simp only [Tryz.f174, Option.getD_some]
        refine wB1 (wa w1 (wa c0 (wa c6 (wa c12 (wa c18 (wa q1 (wa q2 (wa q3 (wa q4 (wa q5 (wa q6 (wa @bo4 (wa hb (wa z1 (wa z2 (wa z3 (wa g1 (wa g2 (wa g3 g4))))))))))))))))))) ?_
        refine fin _ _ (by rw [hoct]; rfl) (by simp only [upd_ap, if_true]; rw [hoct, b8s_app]; exact congrArg (fun z => some (Blk.cells (b8s l ++ z) 1 false)) (b8s_4 p18 Y12 Y6 Y0)) (fun q hq => ?_)
        have y1 : ¬ q = n := by omega
        have y2 : ¬ q = n + 1 := by omega
        have y3 : ¬ q = b := by omega
        simp [upd_ap, y1, y2, y3]
set_option maxHeartbeats 4000000 in
set_option maxRecDepth 100000 in
theorem gf113 (G : Nat → Option (List AV)) (x : AV) {h : Heap} {n lo : Nat} (l : List Nat) (r : Nat) (hx : OwnB x h n lo l) (hr : mayN r = true) (hlo : lo ≤ n) (hl : l.length ≤ 1000000) (K : AV → Heap → Nat → Prop)
    (hK : ∀ x' h' n', n ≤ n' → (∀ q, q < lo → h' q = h q) → OwnB x' h' n' lo (l ++ octN r) → K x' h' n') : Gf (C2 G) 113 [x, .sc (.int .i32 r)] h n K := by
  have hr' := hr
  rw [mayN_iff] at hr
  have w1 : IntKind.u32.wrap (r : Int) = r := IntWalk.u32_in r ⟨by omega, by omega⟩
  have c0 := u8w1 r
  by_cases h1 : r < 128
  · have q1 : (r : Int) ≤ 127 := by omega
    have c0' : r % 256 = r := by omega
    rw [c0'] at c0
    have g3 : l.length * 1 ≤ (b8s l).length := by rw [b8s_len]; omega
    have g4 : cut (b8s l) 0 (l.length * 1) = b8s l := by rw [cut, List.drop_zero, Nat.mul_one, List.take_of_length_le (by rw [b8s_len]; omega)]
    have fin : ∀ h' m, m = l.length + (octN r).length → h' (n + 1) = some (.cells (b8s (l ++ octN r)) 1 false) → (∀ q, q < lo → h' q = h q) → K (.osl (n + 1) 0 m) h' (n + 2) := fun h' m e1 e2 e3 =>
      hK _ h' (n + 2) (by omega) e3 (.inr ⟨n + 1, by rw [List.length_append, e1], e2, by omega, by omega⟩)
    have hoct : octN r = [r] := by unfold octN; rw [if_pos h1]
    have g1 : (l.length + 1) * 1 ≤ 140737488355328 := by omega
    have g2 : l.length + 1 ≤ 140737488355328 := by omega
    rcases hx with ⟨rfl, rfl⟩ | ⟨b, rfl, hb, hb1, hb2⟩
    · refine Gf_enter (C := C2 G) Tryz.func113 rfl ok113 (Nat.le_of_ble_eq_true rfl) ?_
      simp only [Tryz.f113, Option.getD_some]
      refine wB1 (wa w1 (wa c0 (wa q1 @bo1))) ?_
      refine fin _ _ (by rw [hoct]; rfl) (by simp only [upd_ap, if_true]; rw [hoct, b8s_app]; exact congrArg (fun z => some (Blk.cells ( z) 1 false)) (rfl)) (fun q hq => ?_)
      have y1 : ¬ q = n := by omega
      have y2 : ¬ q = n + 1 := by omega
      simp [upd_ap, y1, y2]
    · have z1 : ¬ b = n := by omega
      have z2 : ¬ b = n + 1 := by omega
      have z3 : ¬ n = b := by omega
      refine Gf_enter (C := C2 G) Tryz.func113 rfl ok113 (Nat.le_of_ble_eq_true rfl) ?_
      simp only [Tryz.f113, Option.getD_some]
      refine wB1 (wa w1 (wa c0 (wa q1 (wa @bo1 (wa hb (wa z1 (wa z2 (wa z3 (wa g1 (wa g2 (wa g3 g4))))))))))) ?_
      refine fin _ _ (by rw [hoct]; rfl) (by simp only [upd_ap, if_true]; rw [hoct, b8s_app]; exact congrArg (fun z => some (Blk.cells (b8s l ++ z) 1 false)) (rfl)) (fun q hq => ?_)
      have y1 : ¬ q = n := by omega
      have y2 : ¬ q = n + 1 := by omega
      have y3 : ¬ q = b := by omega
      simp [upd_ap, y1, y2, y3]
  · have q1 : ¬ (r : Int) ≤ 127 := by omega
    refine Gf_enter (C := C2 G) Tryz.func113 rfl ok113 (Nat.le_of_ble_eq_true rfl) ?_
    simp only [Tryz.f113, Option.getD_some]
    repeat' first | refine w_op rfl rfl ?_ | refine x_p rfl ?_ | refine w_sr ?_ | refine st_nil ?_ | refine w_seq ?_ | refine st_region ?_ | refine st_block ?_ | refine w_cond ?_ | refine b_t ?_ | refine b_f ?_ | refine st_skip ?_ | refine st_exit ?_ | refine st_ret ?_ | refine st_onNormN ?_ | refine st_onNormE ?_ | refine st_onNormR ?_ | refine st_onExitN ?_ | refine st_onExitR ?_ | refine st_onExitS ?_ | refine st_onExitO (by decide) ?_ | refine g_t ?_ | refine g_f rfl ?_ | refine o_op rfl ?_ | refine w_wr ?_ | refine w_wn ?_ | refine d_c rfl ?_ | refine d_on rfl ?_ | refine d_op rfl ?_ | refine d_y ?_ | refine d_gd rfl ?_ | refine d_t ?_ | refine d_f ?_ | refine d_nil ?_ | refine w_dr rfl ?_ | refine d_q ?_ | refine n_0 rfl ?_ | refine d_n ?_ | refine k_o rfl rfl rfl ?_ | refine w_gd rfl ?_ | ((first | refine zE1 ?_ | refine w_cl rfl rfl ?_ | refine o_cl rfl ?_ | refine d_cl rfl ?_); (conv => arg 1; try simp only [go_sem, Nat.reduceEqDiff, reduceIte, Nat.reduceAdd, Nat.reduceLeDiff, Nat.reduceMul, Int.reduceEq, Int.reduceLT, Int.reduceLE, Int.reduceNeg, Int.reduceAdd, Int.reduceSub, Nat.reduceLT, Nat.reduceBEq, Nat.reduceSub, Nat.reducePow, w1, q1]); first | refine zE3 ?_ | refine zE2 ?_ | refine zE4 ?_ | refine zE5 ?_ | refine zE6 ?_ | refine zE7 ?_ | refine zE8 ?_) | (refine w_u false ?_; (conv => arg 1; reduce); refine zR1 ?_) | (refine b_s (fun hb => ?_) (fun hb => ?_) <;> ((try simp only [hn1, hn2, hn3, hn4] at hb); first | (exfalso; omega) | skip)) | (first | refine g_s (fun hb => ?_) (fun hb => ?_) | refine d_s (fun hb => ?_) (fun hb => ?_)) <;> ((try simp only [hn1, hn2] at hb); rw [hb]; try simp only [hn3, hn4] at hb)
    refine k_w rfl rfl ?_
    refine gf174 G x l r hx hr' h1 hlo hl _ fun x' h' n' i1 i2 i3 => ?_
    refine n_1 i1 rfl ?_
    refine wB1 trivial ?_
    exact hK x' h' n' i1 i2 i3
end Go.Proofs.Bv
namespace Go.Proofs.Bv
open Go
theorem ok62 : codeOk 23 (Tryz.f62.body.getD .skip) = true := by kernel_rfl
def ns64 (l : List Nat) : List AV := l.map fun (d : Nat) => AV.sc (.int .i64 (d : Int))
theorem ns64_len (l : List Nat) : (ns64 l).length = l.length := by simp [ns64]
def textB (l : List Nat) : ByteArray := ⟨((l.flatMap octN).map UInt8.ofNat).toArray⟩
theorem octN_len (n : Nat) : (octN n).length ≤ 4 := by
  unfold octN
  repeat' split
  all_goals simp
theorem oct_len : (l : List Nat) → (l.flatMap octN).length ≤ l.length * 4
  | [] => by simp
  | x :: l => by
    have h1 := oct_len l
    have h2 := octN_len x
    simp only [List.flatMap_cons, List.length_append, List.length_cons]
    omega
theorem oct_lt {l : List Nat} (hv : ∀ r ∈ l, mayN r = true) : ∀ d ∈ l.flatMap octN, d < 256 := by
  intro d hd
  obtain ⟨r, hr, hd⟩ := List.mem_flatMap.1 hd
  exact octN_lt r ((mayN_iff r).1 (hv r hr)).1 d hd
set_option maxHeartbeats 4000000 in
set_option maxRecDepth 100000 in
theorem pc62 (G : Nat → Option (List AV)) (l : List Nat) (hv : ∀ r ∈ l, mayN r = true) (hl : l.length ≤ 100000) : Pc (C2 G) 62 [.psl (ns64 l) l.length] (.tup [.sc (.string (textB l)), .sc (.int .i64 0)]) := by
  refine Pc_of (Gf_enter (C := C2 G) Tryz.func62 rfl ok62 (Nat.le_of_ble_eq_true rfl) ?_)
  simp only [Tryz.f62, Option.getD_some]
  refine wB1 trivial ?_
  refine Gc_loop_inv (fun m st => ∃ d r, l = d ++ r ∧ m = r.length ∧ st.T 7 = .psl (ns64 l) l.length ∧ st.T 8 = .sc (.int .i64 l.length) ∧ st.T 9 = .sc (.int .i64 d.length) ∧ ∃ x, st.T 4 = x ∧ OwnB x st.h st.n 0 (d.flatMap octN)) ?_ l.length _ ⟨[], l, rfl, rfl, rfl, rfl, rfl, .nilS, rfl, .inl ⟨rfl, rfl⟩⟩
  rintro m ⟨T, h, n⟩ ⟨d, r, hdr, rfl, t7, t8, t9, x, t4, ho⟩
  simp only at t7 t8 t9 t4 ho
  have hdl : d.length ≤ l.length := by rw [hdr]; simp
  have hol := oct_len d
  cases r with
  | nil =>
    have e : d = l := by rw [hdr]; simp
    subst e
    have hge : ¬ (d.length : Int) < (d.length : Int) := by omega
    have hby := bytesOf_b8s (oct_lt hv)
    have hbl := b8s_len (d.flatMap octN)
    rcases ho with ⟨rfl, e0⟩ | ⟨b, rfl, hb, _, hbn⟩
    · refine wB1 (wa t7 (wa t8 (wa t9 (wa t4 hge)))) ?_
      rw [show textB d = ⟨#[]⟩ by unfold textB; rw [e0]; rfl]
      simp only [one1, frz_t, mapF, frz_s, Option.map_some, List.append_nil]
    · have g3 : (d.flatMap octN).length * 1 ≤ (b8s (d.flatMap octN)).length := by rw [b8s_len]; omega
      have g4 : cut (b8s (d.flatMap octN)) 0 ((d.flatMap octN).length * 1) = b8s (d.flatMap octN) := by rw [cut, List.drop_zero, Nat.mul_one, List.take_of_length_le (by rw [b8s_len]; omega)]
      have g5 : (d.flatMap octN).length * 1 ≤ (d.flatMap octN).length := by omega
      refine wB1 (wa t7 (wa t8 (wa t9 (wa t4 (wa hge (wa hb (wa g3 (wa g4 (wa hby (wa hbl g5)))))))))) ?_
      simp only [one1, frz_t, mapF, frz_s, Option.map_some, List.append_nil]
      rfl
  | cons c r =>
    have hlt : (d.length : Int) < (l.length : Int) := by rw [hdr]; simp; omega
    have hlt' : d.length < l.length := by omega
    have hx : (ns64 l)[d.length * 1]? = some (.sc (.int .i64 c)) := by rw [hdr]; simp [ns64]
    have hc : mayN c = true := hv c (by rw [hdr]; simp)
    have h112 := orcL_of (pc112 G c hc)
    have hc1 := (mayN_iff c).1 hc
    have w : IntKind.i32.wrap (c : Int) = c := i32 (by omega) (by omega)
    have w1 : IntKind.i64.wrap ((d.length : Int) + 1) = (d.length : Int) + 1 := i64 (by omega) (by omega)
    refine wC1 (wa t7 (wa t8 (wa t9 (wa t4 (wa hlt (wa hlt' (wa hx (wa h112 w)))))))) trivial ?_
    refine k_w rfl rfl ?_
    refine gf113 G x (d.flatMap octN) c ho hc (Nat.zero_le _) (by omega) _ fun x' h' n' i1 _ i3 => ?_
    refine n_1 i1 rfl ?_
    refine wB1 (wa t9 w1) ?_
    refine ⟨r.length, by simp, d ++ [c], r, by rw [hdr]; simp, rfl, ?_, ?_, ?_, x', ?_, ?_⟩
    · simp only [vop, val, argsT, upd_ap, Nat.reduceEqDiff, if_true, if_false, ite_true, ite_false, reduceIte, loadAt, loadA, AV.cells, AV.one, List.all_cons, List.all_nil, ofV, ofCell, plain, List.getElem?_cons_zero, List.getElem?_cons_succ, List.getElem?_toArray, Option.getD_some, Bool.not_true, Bool.not_false, Bool.false_eq_true, Bool.and_true, Bool.true_and, Bool.and_self, Nat.zero_add, Option.map_some, Option.bind_some, List.map_cons, List.map_nil, ev_add, ev_sub, ev_mul, ev_lss, ev_leq, ev_gtr, ev_geq, ev_eql, ev_neq, ev_seql, ev_sneq, ev_sleq, ev_slss, ev_not, ev_min, ev_max, asNat_nat, asNat_zero, asNat_one, asNat_two, asNat_three, vb_len, List.length_cons, List.length_nil, Nat.reduceAdd, Nat.reduceLeDiff, Nat.reduceMul, Int.reduceEq, Int.reduceLT, Int.reduceLE, Int.reduceNeg, Int.reduceAdd, Int.reduceSub, Nat.reduceLT, decide_true, decide_false, not_true_eq_false, not_false_eq_true, and_self, and_true, true_and, storeA, List.take_zero, List.drop_succ_cons, List.drop_zero, List.nil_append, List.append_nil, List.take_succ_cons, List.cons_append, cut_cons, cut_zero, cut_skip, tAt, hHide, hAt, upsAt, List.contains_cons, List.contains_nil, Nat.reduceBEq, Bool.or_true, Bool.true_or, Bool.or_false, Bool.false_or, Bool.or_self, Bool.and_true, Bool.true_and, Bool.and_false, Bool.false_and, beq_self_eq_true (α := Nat), Option.some_beq_some, Option.none_beq_some, Option.some_beq_none, Bool.false_eq_true, List.all_nil, touch, touchB, Nat.sub_self, List.range'_zero, Nat.add_sub_cancel_left, List.range'_one, t7]
    · simp only [vop, val, argsT, upd_ap, Nat.reduceEqDiff, if_true, if_false, ite_true, ite_false, reduceIte, loadAt, loadA, AV.cells, AV.one, List.all_cons, List.all_nil, ofV, ofCell, plain, List.getElem?_cons_zero, List.getElem?_cons_succ, List.getElem?_toArray, Option.getD_some, Bool.not_true, Bool.not_false, Bool.false_eq_true, Bool.and_true, Bool.true_and, Bool.and_self, Nat.zero_add, Option.map_some, Option.bind_some, List.map_cons, List.map_nil, ev_add, ev_sub, ev_mul, ev_lss, ev_leq, ev_gtr, ev_geq, ev_eql, ev_neq, ev_seql, ev_sneq, ev_sleq, ev_slss, ev_not, ev_min, ev_max, asNat_nat, asNat_zero, asNat_one, asNat_two, asNat_three, vb_len, List.length_cons, List.length_nil, Nat.reduceAdd, Nat.reduceLeDiff, Nat.reduceMul, Int.reduceEq, Int.reduceLT, Int.reduceLE, Int.reduceNeg, Int.reduceAdd, Int.reduceSub, Nat.reduceLT, decide_true, decide_false, not_true_eq_false, not_false_eq_true, and_self, and_true, true_and, storeA, List.take_zero, List.drop_succ_cons, List.drop_zero, List.nil_append, List.append_nil, List.take_succ_cons, List.cons_append, cut_cons, cut_zero, cut_skip, tAt, hHide, hAt, upsAt, List.contains_cons, List.contains_nil, Nat.reduceBEq, Bool.or_true, Bool.true_or, Bool.or_false, Bool.false_or, Bool.or_self, Bool.and_true, Bool.true_and, Bool.and_false, Bool.false_and, beq_self_eq_true (α := Nat), Option.some_beq_some, Option.none_beq_some, Option.some_beq_none, Bool.false_eq_true, List.all_nil, touch, touchB, Nat.sub_self, List.range'_zero, Nat.add_sub_cancel_left, List.range'_one, t8]
    · simp [upd_ap]
    · simp only [vop, val, argsT, upd_ap, Nat.reduceEqDiff, if_true, if_false, ite_true, ite_false, reduceIte, loadAt, loadA, AV.cells, AV.one, List.all_cons, List.all_nil, ofV, ofCell, plain, List.getElem?_cons_zero, List.getElem?_cons_succ, List.getElem?_toArray, Option.getD_some, Bool.not_true, Bool.not_false, Bool.false_eq_true, Bool.and_true, Bool.true_and, Bool.and_self, Nat.zero_add, Option.map_some, Option.bind_some, List.map_cons, List.map_nil, ev_add, ev_sub, ev_mul, ev_lss, ev_leq, ev_gtr, ev_geq, ev_eql, ev_neq, ev_seql, ev_sneq, ev_sleq, ev_slss, ev_not, ev_min, ev_max, asNat_nat, asNat_zero, asNat_one, asNat_two, asNat_three, vb_len, List.length_cons, List.length_nil, Nat.reduceAdd, Nat.reduceLeDiff, Nat.reduceMul, Int.reduceEq, Int.reduceLT, Int.reduceLE, Int.reduceNeg, Int.reduceAdd, Int.reduceSub, Nat.reduceLT, decide_true, decide_false, not_true_eq_false, not_false_eq_true, and_self, and_true, true_and, storeA, List.take_zero, List.drop_succ_cons, List.drop_zero, List.nil_append, List.append_nil, List.take_succ_cons, List.cons_append, cut_cons, cut_zero, cut_skip, tAt, hHide, hAt, upsAt, List.contains_cons, List.contains_nil, Nat.reduceBEq, Bool.or_true, Bool.true_or, Bool.or_false, Bool.false_or, Bool.or_self, Bool.and_true, Bool.true_and, Bool.and_false, Bool.false_and, beq_self_eq_true (α := Nat), Option.some_beq_some, Option.none_beq_some, Option.some_beq_none, Bool.false_eq_true, List.all_nil, touch, touchB, Nat.sub_self, List.range'_zero, Nat.add_sub_cancel_left, List.range'_one]
    · simp only [List.flatMap_append, List.flatMap_cons, List.flatMap_nil, List.append_nil]
      exact i3
end Go.Proofs.Bv
