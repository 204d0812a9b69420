/-
  A part of the proof of KindsKeysUptoCardSaid: BkUtf, BkRefC, BkRefD, BkLawK.
  Conditions: those that each part names.
-/
import Derived.Test.YtegdndonafbcdaaGreatDoorKk14
import Derived.Lib.DecodeN
set_option linter.unusedSimpArgs false
set_option linter.unusedVariables false
namespace Go.Proofs.Bv
open Go
def mayN (n : Nat) : Bool := decide (n ≤ 1114111) && (decide (n < 55296) || decide (57343 < n))
def octN (n : Nat) : List Nat :=
  if n < 128 then [n]
  else if n < 2048 then [192 + n / 64, 128 + n % 64]
  else if n < 65536 then [224 + n / 4096, 128 + n / 64 % 64, 128 + n % 64]
  else [240 + n / 262144, 128 + n / 4096 % 64, 128 + n / 64 % 64, 128 + n % 64]
def finN (bs : List Nat) (n : Nat) : Nat × Nat := if mayN n = true ∧ octN n = bs then (n, bs.length) else (0, 0)
def firstN (n b0 b1 b2 b3 : Nat) : Nat × Nat :=
  if n = 0 then (0, 0)
  else if 240 ≤ b0 then (if n < 4 then (0, 0) else finN [b0, b1, b2, b3] ((((b0 - 240) * 64 + b1 % 64) * 64 + b2 % 64) * 64 + b3 % 64))
  else if 224 ≤ b0 then (if n < 3 then (0, 0) else finN [b0, b1, b2] (((b0 - 224) * 64 + b1 % 64) * 64 + b2 % 64))
  else if 192 ≤ b0 then (if n < 2 then (0, 0) else finN [b0, b1] ((b0 - 192) * 64 + b1 % 64))
  else finN [b0] b0
def goodN (d : Nat × Nat) : Nat × Nat := if d.1 = 65533 ∧ d.2 = 1 then (0, 0) else d
theorem octN_1 (n b0 : Nat) (h : mayN n = true) : octN n = [b0] ↔ n < 128 ∧ n = b0 := by
  unfold octN
  split
  · simp; omega
  · split
    · simp; omega
    · split
      · simp; omega
      · simp; omega
theorem octN_2 (n b0 b1 : Nat) : octN n = [b0, b1] ↔ 128 ≤ n ∧ n < 2048 ∧ 192 + n / 64 = b0 ∧ 128 + n % 64 = b1 := by
  unfold octN
  split
  · simp; omega
  · split
    · simp; omega
    · split
      · simp; omega
      · simp; omega
theorem octN_3 (n b0 b1 b2 : Nat) : octN n = [b0, b1, b2] ↔ 2048 ≤ n ∧ n < 65536 ∧ 224 + n / 4096 = b0 ∧ 128 + n / 64 % 64 = b1 ∧ 128 + n % 64 = b2 := by
  unfold octN
  split
  · simp; omega
  · split
    · simp; omega
    · split
      · simp; omega
      · simp; omega
theorem octN_4 (n b0 b1 b2 b3 : Nat) : octN n = [b0, b1, b2, b3] ↔ 65536 ≤ n ∧ 240 + n / 262144 = b0 ∧ 128 + n / 4096 % 64 = b1 ∧ 128 + n / 64 % 64 = b2 ∧ 128 + n % 64 = b3 := by
  unfold octN
  split
  · simp; omega
  · split
    · simp; omega
    · split
      · simp; omega
      · simp; omega
theorem mayN_iff (n : Nat) : mayN n = true ↔ n ≤ 1114111 ∧ (n < 55296 ∨ 57343 < n) := by simp [mayN]
set_option maxHeartbeats 4000000 in
theorem first_good (n b0 b1 b2 b3 : Nat) (hn : 0 < n) (h0 : b0 < 256) (h1 : b1 < 256) (h2 : b2 < 256) (h3 : b3 < 256) : firstN n b0 b1 b2 b3 = goodN (Lib.decodeN n b0 b1 b2 b3) := by
  unfold firstN
  rw [if_neg (by omega)]
  by_cases c1 : 240 ≤ b0
  · rw [if_pos c1]
    unfold Lib.decodeN
    by_cases hn4 : n < 4
    · rw [if_pos hn4, if_neg (by omega), if_neg (by omega), if_neg (by omega), if_neg (by omega)]
      simp [goodN]
    · rw [if_neg hn4, if_neg (by omega), if_neg (by omega), if_neg (by omega)]
      by_cases hc : b0 / 8 = 30 ∧ b1 / 64 = 2 ∧ b2 / 64 = 2 ∧ b3 / 64 = 2
      · rw [if_pos (by omega)]
        generalize hv : b0 % 8 * 262144 + b1 % 64 * 4096 + b2 % 64 * 64 + b3 % 64 = v
        have e : (((b0 - 240) * 64 + b1 % 64) * 64 + b2 % 64) * 64 + b3 % 64 = v := by omega
        rw [e]
        unfold finN
        by_cases hg : v ≥ 65536 ∧ (v < 55296 ∨ 57344 ≤ v ∧ v ≤ 1114111)
        · rw [if_pos hg, if_pos ⟨(mayN_iff v).2 (by omega), (octN_4 v b0 b1 b2 b3).2 (by omega)⟩]
          unfold goodN
          rw [if_neg (by simp)]
          rfl
        · rw [if_neg hg, if_neg (by rw [mayN_iff, octN_4]; omega)]
          simp [goodN]
      · rw [if_neg (by omega)]
        unfold finN
        rw [if_neg (by rw [mayN_iff, octN_4]; omega)]
        simp [goodN]
  · rw [if_neg c1]
    by_cases c2 : 224 ≤ b0
    · rw [if_pos c2]
      unfold Lib.decodeN
      by_cases hn3 : n < 3
      · rw [if_pos hn3, if_neg (by omega), if_neg (by omega), if_neg (by omega), if_neg (by omega)]
        simp [goodN]
      · rw [if_neg hn3, if_neg (by omega), if_neg (by omega)]
        by_cases hc : b1 / 64 = 2 ∧ b2 / 64 = 2
        · rw [if_pos (by omega)]
          generalize hv : b0 % 16 * 4096 + b1 % 64 * 64 + b2 % 64 = v
          have e : ((b0 - 224) * 64 + b1 % 64) * 64 + b2 % 64 = v := by omega
          rw [e]
          unfold finN
          by_cases hg : v ≥ 2048 ∧ (v < 55296 ∨ 57344 ≤ v ∧ v ≤ 1114111)
          · rw [if_pos hg, if_pos ⟨(mayN_iff v).2 (by omega), (octN_3 v b0 b1 b2).2 (by omega)⟩]
            unfold goodN
            rw [if_neg (by simp)]
            rfl
          · rw [if_neg hg, if_neg (by rw [mayN_iff, octN_3]; omega)]
            simp [goodN]
        · rw [if_neg (by omega), if_neg (by omega)]
          unfold finN
          rw [if_neg (by rw [mayN_iff, octN_3]; omega)]
          simp [goodN]
    · rw [if_neg c2]
      by_cases c3 : 192 ≤ b0
      · rw [if_pos c3]
        unfold Lib.decodeN
        by_cases hn2 : n < 2
        · rw [if_pos hn2, if_neg (by omega), if_neg (by omega), if_neg (by omega), if_neg (by omega)]
          simp [goodN]
        · rw [if_neg hn2, if_neg (by omega)]
          by_cases hc : b1 / 64 = 2
          · rw [if_pos (by omega)]
            generalize hv : b0 % 32 * 64 + b1 % 64 = v
            have e : (b0 - 192) * 64 + b1 % 64 = v := by omega
            rw [e]
            unfold finN
            by_cases hg : v ≥ 128
            · rw [if_pos hg, if_pos ⟨(mayN_iff v).2 (by omega), (octN_2 v b0 b1).2 (by omega)⟩]
              unfold goodN
              rw [if_neg (by simp)]
              rfl
            · rw [if_neg hg, if_neg (by rw [mayN_iff, octN_2]; omega)]
              simp [goodN]
          · rw [if_neg (by omega), if_neg (by omega), if_neg (by omega)]
            unfold finN
            rw [if_neg (by rw [mayN_iff, octN_2]; omega)]
            simp [goodN]
      · rw [if_neg c3]
        unfold Lib.decodeN finN
        by_cases c4 : b0 < 128
        · rw [if_pos c4, if_pos ⟨(mayN_iff b0).2 (by omega), (octN_1 b0 b0 ((mayN_iff b0).2 (by omega))).2 ⟨c4, rfl⟩⟩]
          unfold goodN
          rw [if_neg (by simp; omega)]
          rfl
        · have hm : mayN b0 = true := (mayN_iff b0).2 (by omega)
          rw [if_neg (by rw [octN_1 b0 b0 hm]; omega), if_neg c4, if_neg (by omega), if_neg (by omega), if_neg (by omega)]
          simp [goodN]
end Go.Proofs.Bv
namespace Go.Proofs.Bv
open Go
theorem ok48 : codeOk 45 (Tryz.f48.body.getD .skip) = true := by kernel_rfl
def sameL : List Int → List Int → Bool
  | x :: a, y :: b => decide (x = y) && sameL a b
  | _, _ => true
theorem sameL_self : (a : List Int) → sameL a a = true
  | [] => rfl
  | x :: a => by simp [sameL, sameL_self a]
def sameD (n1 : Bool) (c1 : List Int) (e1 : Int) (n2 : Bool) (c2 : List Int) (e2 : Int) : Bool := decide (n1 = n2) && decide (e1 = e2) && decide (c1.length = c2.length) && sameL c1 c2
theorem pureRun_bind {P : Program} {α β : Type} (f : α → Sem β) (s : Sem α) : ∀ {a : α}, pureRun P s = some a → pureRun P (s.bind f) = pureRun P (f a) := by
  induction s with
  | pure x =>
    intro a h
    simp only [pureRun, Option.some.injEq] at h
    subst h
    rfl
  | program k ih =>
    intro a h
    have := ih P (a := a) (by simpa only [pureRun] using h)
    simpa only [Sem.bind, pureRun] using this
  | _ => intro a h; simp [pureRun] at h
theorem eq_bool {P : Program} {t : TypeId} (ht : P.underlying t = some .bool) (k : Nat) (a b : Bool) : pureRun P (Op.equalIn (k + 1) t (.bool a) (.bool b)) = some (a == b) := by
  simp only [Op.equalIn, Go.underlying, program, bind, Sem.bind, pureRun, ht, pure]
theorem ev_neqb {P : Program} {t : TypeId} (ht : P.underlying t = some .bool) {xo yo : Operand} {a b : Bool} : vbin P .neq t xo yo (.sc (.bool a)) (.sc (.bool b)) = some (.sc (.bool (!(a == b)))) := by
  have h1 := eq_bool ht 9999 a b
  have h2 : pureRun P (do eqGuard .neq t xo yo (.bool a) (.bool b); binOp .neq t (.bool a) (.bool b)) = some (.bool (!(a == b))) := by
    have e : (do eqGuard .neq t xo yo (.bool a) (.bool b); binOp .neq t (.bool a) (.bool b) : Sem Value) = (Op.equalIn (9999 + 1) t (.bool a) (.bool b)).bind fun c => Sem.pure (.bool !c) := rfl
    rw [e, pureRun_bind _ _ h1]
    rfl
  simp only [vbin, toVal, h2, Option.bind_some, scal, plain, if_true]
theorem ev_eqlb {P : Program} {t : TypeId} (ht : P.underlying t = some .bool) {xo yo : Operand} {a b : Bool} : vbin P .eql t xo yo (.sc (.bool a)) (.sc (.bool b)) = some (.sc (.bool (a == b))) := by
  have h1 := eq_bool ht 9999 a b
  have h2 : pureRun P (do eqGuard .eql t xo yo (.bool a) (.bool b); binOp .eql t (.bool a) (.bool b)) = some (.bool (a == b)) := by
    have e : (do eqGuard .eql t xo yo (.bool a) (.bool b); binOp .eql t (.bool a) (.bool b) : Sem Value) = (Op.equalIn (9999 + 1) t (.bool a) (.bool b)).bind fun c => Sem.pure (.bool c) := rfl
    rw [e, pureRun_bind _ _ h1]
    rfl
  simp only [vbin, toVal, h2, Option.bind_some, scal, plain, if_true]
set_option maxHeartbeats 4000000 in
set_option maxRecDepth 100000 in
theorem pc48 (G : Nat → Option (List AV)) (n1 n2 : Bool) (c1 c2 : List Int) (e1 e2 : Int) (hl : c1.length ≤ 140737488355328) :
    Pc (Cf G) 48 [.agg [.sc (.bool n1), .psl (u32s c1) c1.length, .sc (.int .i64 e1)], .agg [.sc (.bool n2), .psl (u32s c2) c2.length, .sc (.int .i64 e2)]] (.sc (.bool (sameD n1 c1 e1 n2 c2 e2))) := by
  have hn := @ev_neqb Tryz.prog 4 Tryz.underlying4
  by_cases hc : n1 = n2 ∧ e1 = e2 ∧ c1.length = c2.length
  · obtain ⟨rfl, rfl, hlen⟩ := hc
    have hlen' : (c1.length : Int) = (c2.length : Int) := by omega
    have hb : (n1 == n1) = true := by simp
    have hD : sameD n1 c1 e1 n1 c2 e1 = sameL c1 c2 := by simp [sameD, hlen]
    rw [hD]
    refine Pc_of (Gf_enter (C := Cf G) Tryz.func48 rfl ok48 (Nat.le_of_ble_eq_true rfl) ?_)
    simp only [Tryz.f48, Option.getD_some]
    refine wB1 (wa @hn (wa hlen' hb)) ?_
    refine Gc_loop_inv (fun m st => ∃ d r d2 r2, c1 = d ++ r ∧ c2 = d2 ++ r2 ∧ d.length = d2.length ∧ r.length = r2.length ∧ m = r.length ∧ sameL r r2 = sameL c1 c2 ∧ st.T 2 = .ptr 0 0 ∧ st.T 3 = .ptr 1 0 ∧ st.T 5 = .sc (.int .i64 d.length) ∧
      st.h 0 = some (.cells [.sc (.bool n1), .psl (u32s c1) c1.length, .sc (.int .i64 e1)] 0 false) ∧ st.h 1 = some (.cells [.sc (.bool n1), .psl (u32s c2) c2.length, .sc (.int .i64 e1)] 0 false)) ?_ c1.length _ ⟨[], c1, [], c2, rfl, rfl, rfl, hlen, rfl, rfl, ?_⟩
    · rintro m ⟨T, h, n⟩ ⟨d, r, d2, r2, h1, h2, hdl, hrl, rfl, hs, t2, t3, t5, q0, q1⟩
      simp only at t2 t3 t5 q0 q1
      cases r with
      | nil =>
        have hge : ¬ (d.length : Int) < (c1.length : Int) := by rw [h1]; simp
        refine wB1 (wa t2 (wa t3 (wa t5 (wa q0 (wa q1 hge))))) ?_
        simp only [one1, frz_s, Option.map_some, ← hs]
        rfl
      | cons x r =>
        cases r2 with
        | nil => simp at hrl
        | cons y r2 =>
          have hlt : (d.length : Int) < (c1.length : Int) := by rw [h1]; simp; omega
          have hlt1 : d.length < c1.length := by omega
          have hlt2 : d.length < c2.length := by omega
          have hx : (u32s c1)[d.length * 1]? = some (.sc (.int .u32 x)) := by rw [h1]; simp [u32s]
          have hy : (u32s c2)[d.length * 1]? = some (.sc (.int .u32 y)) := by rw [h2, hdl]; simp [u32s]
          have w1 : IntKind.i64.wrap ((d.length : Int) + 1) = (d.length : Int) + 1 := i64 (by omega) (by omega)
          simp only [sameL] at hs
          by_cases hxy : x = y
          · subst hxy
            refine wB1 (wa t2 (wa t3 (wa t5 (wa q0 (wa q1 (wa hlt (wa hlt1 (wa hlt2 (wa hx (wa hy w1)))))))))) ?_
            refine ⟨r.length, by simp, d ++ [x], r, d2 ++ [x], r2, by simp [h1], by simp [h2], by simp [hdl], by simpa using hrl, rfl, by simpa using hs, ?_, ?_, ?_, q0, q1⟩
            all_goals simp [upd_ap, tAt, t2, t3]
          · refine wB1 (wa t2 (wa t3 (wa t5 (wa q0 (wa q1 (wa hlt (wa hlt1 (wa hlt2 (wa hx (wa hy (wa hxy w1))))))))))) ?_
            simp only [one1, frz_s, Option.map_some, ← hs]
            simp [hxy]
    · simp [upd_ap, argsT]
  · have hD : sameD n1 c1 e1 n2 c2 e2 = false := by
      unfold sameD
      simp
      intro h1 h2 h3
      exact absurd ⟨h1, h2, h3⟩ hc
    rw [hD]
    by_cases hn1 : n1 = n2
    · subst hn1
      have hb : (n1 == n1) = true := by simp
      by_cases he : e1 = e2
      · have hl' : ¬ (c1.length : Int) = (c2.length : Int) := fun e => hc ⟨rfl, he, by omega⟩
        refine Pc_of (Gf_enter (C := Cf G) Tryz.func48 rfl ok48 (Nat.le_of_ble_eq_true rfl) ?_)
        simp only [Tryz.f48, Option.getD_some]
        refine wB1 (wa @hn (wa hb (wa he hl'))) ?_
        simp only [one1, frz_s, Option.map_some]
      · refine Pc_of (Gf_enter (C := Cf G) Tryz.func48 rfl ok48 (Nat.le_of_ble_eq_true rfl) ?_)
        simp only [Tryz.f48, Option.getD_some]
        refine wB1 (wa @hn (wa hb he)) ?_
        simp only [one1, frz_s, Option.map_some]
    · have hb : (n1 == n2) = false := by simp [hn1]
      refine Pc_of (Gf_enter (C := Cf G) Tryz.func48 rfl ok48 (Nat.le_of_ble_eq_true rfl) ?_)
      simp only [Tryz.f48, Option.getD_some]
      refine wB1 (wa @hn hb) ?_
      simp only [one1, frz_s, Option.map_some]
end Go.Proofs.Bv
namespace Go.Proofs.Bv
open Go
theorem ok14 : codeOk 82 (Tryz.f14.body.getD .skip) = true := by kernel_rfl
theorem sameD_self (n : Bool) (c : List Int) (e : Int) : sameD n c e n c e = true := by simp [sameD, sameL_self]
set_option maxHeartbeats 8000000 in
set_option maxRecDepth 100000 in
theorem pc14 (G : Nat → Option (List AV)) : (v : JV) → Fit v → Pc (Cf G) 14 [.agg (enc v), .agg (enc v)] (.sc (.bool true))
  | .mk kk ng cf ex t l ks => fun hfit => by
    have hnl := hfit.1.nlist
    have hnk := hfit.1.nkeys
    have ih : ∀ x ∈ l, Pc (Cf G) 14 [.agg (enc x), .agg (enc x)] (.sc (.bool true)) := fun x hx => pc14 G x (Fits_mem hfit.2 x hx)
    have h48 := pc48 G ng ng cf cf ex ex (by have := hfit.1.ncoef; omega)
    rw [sameD_self] at h48
    have ht : ∀ s : ByteArray, (s.toList == s.toList) = true := fun s => by simp
    refine Pc_of (Gf_enter (C := Cf G) Tryz.func14 rfl ok14 (Nat.le_of_ble_eq_true rfl) ?_)
    simp only [Tryz.f14, Option.getD_some]
    simp only [enc]
    refine wC1 ht (wa h48 trivial) ?_
    refine Gc_loop_inv (fun m st => ∃ d r, ks = d ++ r ∧ m = r.length ∧ st.T 2 = .ptr 0 0 ∧ st.T 3 = .ptr 1 0 ∧ st.T 5 = .sc (.int .i64 d.length) ∧
      st.h 0 = some (.cells [.sc (.int .i64 kk), .sc (.bool ng), .psl (u32s cf) cf.length, .sc (.int .i64 ex), .sc (.string t), .psl (encs l) l.length, .psl (strs ks) ks.length] 0 false) ∧
      st.h 1 = some (.cells [.sc (.int .i64 kk), .sc (.bool ng), .psl (u32s cf) cf.length, .sc (.int .i64 ex), .sc (.string t), .psl (encs l) l.length, .psl (strs ks) ks.length] 0 false)) ?_ ks.length _ ⟨[], ks, rfl, rfl, ?_⟩
    · rintro m ⟨T, h, n⟩ ⟨d, r, hdr, rfl, t2, t3, t5, q0, q1⟩
      simp only at t2 t3 t5 q0 q1
      cases r with
      | nil =>
        have hge : ¬ (d.length : Int) < (ks.length : Int) := by rw [hdr]; simp
        refine wB1 (wa t2 (wa t3 (wa t5 (wa q0 (wa q1 hge))))) ?_
        refine Gc_loop_inv (fun m st => ∃ d r, l = d ++ r ∧ m = r.length ∧ st.T 2 = .ptr 0 0 ∧ st.T 3 = .ptr 1 0 ∧ st.T 6 = .sc (.int .i64 d.length) ∧
          st.h 0 = some (.cells [.sc (.int .i64 kk), .sc (.bool ng), .psl (u32s cf) cf.length, .sc (.int .i64 ex), .sc (.string t), .psl (encs l) l.length, .psl (strs ks) ks.length] 0 false) ∧
          st.h 1 = some (.cells [.sc (.int .i64 kk), .sc (.bool ng), .psl (u32s cf) cf.length, .sc (.int .i64 ex), .sc (.string t), .psl (encs l) l.length, .psl (strs ks) ks.length] 0 false)) ?_ l.length _ ⟨[], l, rfl, rfl, ?_⟩
        · rintro m ⟨T, h, n⟩ ⟨d, r, hdr, rfl, t2, t3, t6, q0, q1⟩
          simp only at t2 t3 t6 q0 q1
          cases r with
          | nil =>
            have hge : ¬ (d.length : Int) < (l.length : Int) := by rw [hdr]; simp
            refine wB1 (wa t2 (wa t3 (wa t6 (wa q0 (wa q1 hge))))) ?_
            simp only [one1, frz_s, Option.map_some]
          | cons x r =>
            have hlt : (d.length : Int) < (l.length : Int) := by rw [hdr]; simp; omega
            have hltn : d.length < l.length := by omega
            have hcut : cut (encs l) (d.length * 7) 7 = enc x := by rw [hdr]; exact cut_encs d x r
            have hle : d.length * 7 + 7 ≤ (encs l).length := by rw [encs_len]; omega
            have hx := ih x (by rw [hdr]; simp)
            have w1 : IntKind.i64.wrap ((d.length : Int) + 1) = (d.length : Int) + 1 := i64 (by omega) (by omega)
            obtain ⟨k', n', c', e', t', l', ks'⟩ := x
            simp only [enc] at hx hcut
            refine wC1 (wa t2 (wa t3 (wa t6 (wa q0 (wa q1 (wa hlt (wa hltn (wa hcut (wa hle w1))))))))) (wa hx trivial) ?_
            refine ⟨r.length, by simp, d ++ [.mk k' n' c' e' t' l' ks'], r, by simp [hdr], rfl, ?_, ?_, ?_, q0, q1⟩
            all_goals simp [upd_ap, tAt, t2, t3]
        · simp [upd_ap, t2, t3, q0, q1]
      | cons k r =>
        have hlt : (d.length : Int) < (ks.length : Int) := by rw [hdr]; simp; omega
        have hltn : d.length < ks.length := by omega
        have hk := strs_at hdr
        have w1 : IntKind.i64.wrap ((d.length : Int) + 1) = (d.length : Int) + 1 := i64 (by omega) (by omega)
        refine wB1 (wa t2 (wa t3 (wa t5 (wa q0 (wa q1 (wa hlt (wa hltn (wa hk (wa w1 ht))))))))) ?_
        refine ⟨r.length, by simp, d ++ [k], r, by simp [hdr], rfl, ?_, ?_, ?_, q0, q1⟩
        all_goals simp [upd_ap, tAt, t2, t3]
    · simp [upd_ap, argsT]
  termination_by v => v
  decreasing_by
    simp_wf
    have := List.sizeOf_lt_of_mem hx
    omega
end Go.Proofs.Bv
namespace Go.Proofs.Bv
open Go
theorem ok4 : codeOk 89 (Tryz.f4.body.getD .skip) = true := by kernel_rfl
theorem ok13 : codeOk 4 (Tryz.f13.body.getD .skip) = true := by kernel_rfl
theorem pc13 (G : Nat → Option (List AV)) (e : Int) (he : -9223372036854775808 ≤ e ∧ e ≤ 9223372036854775807) : Pc (Cf G) 13 [.sc (.int .i64 e)] (.sc (.int .i64 e)) := by
  have w := i64 he.1 he.2
  refine Pc_of (Gf_enter (C := Cf G) Tryz.func13 rfl ok13 (Nat.le_of_ble_eq_true rfl) ?_)
  simp only [Tryz.f13, Option.getD_some]
  refine wB1 w ?_
  simp only [one1, frz_s, Option.map_some]
theorem chkFrom_rng (s : ByteArray) (p : Nat) : 0 ≤ (chkFrom s p).2 ∧ (chkFrom s p).2 ≤ 100 := by
  unfold chkFrom
  split
  · rename_i h
    have := wide_rng s p h
    split
    · simp
    · exact chkFrom_rng s (p + wideAt s p)
  · simp
termination_by s.size - p
theorem letters_rng (s : ByteArray) : 0 ≤ letters s ∧ letters s ≤ 100 := by
  have := chkFrom_rng s 0
  unfold letters
  split
  · split <;> omega
  · omega
theorem textsK_rng : (ks : List ByteArray) → (e : Int) → 0 ≤ e ∧ e ≤ 100 → 0 ≤ textsK ks e ∧ textsK ks e ≤ 100
  | [], e, h => h
  | k :: r, e, h => by
    have := letters_rng k
    simp only [textsK]
    refine textsK_rng r _ ?_
    unfold or2
    split <;> omega
theorem own_rng (v : JV) : 0 ≤ own v ∧ own v ≤ 100 := by
  obtain ⟨k, ng, cf, ex, t, l, ks⟩ := v
  have := textsK_rng ks (letters t) (letters_rng t)
  simp only [own, texts]
  repeat' split
  all_goals omega
theorem firstErr_rng : (l : List JV) → 0 ≤ firstErr l ∧ firstErr l ≤ 100
  | [] => by simp [firstErr]
  | x :: r => by
    have := own_rng x
    have := firstErr_rng r
    simp only [firstErr]
    split <;> omega
theorem chk_rng (v : JV) : 0 ≤ chk v ∧ chk v ≤ 100 := by
  have := firstErr_rng (pre v)
  unfold chk
  repeat' split
  all_goals omega
theorem len_any (v : JV) : ∃ w e, lenR v = withE w e := by
  unfold lenR
  split
  · exact ⟨_, _, rfl⟩
  · split
    · exact ⟨_, _, rfl⟩
    · split
      · exact ⟨_, _, rfl⟩
      · split
        · exact ⟨_, _, rfl⟩
        · exact ⟨_, _, rfl⟩
theorem pc17A (G : Nat → Option (List AV)) (v : JV) (h : Fit v) : Pc (Cf G) 17 [.agg (enc v)] (lenR v) := by
  obtain ⟨k, ng, cf, ex, t, l, ks⟩ := v
  refine pc17 G _ h (fun hc => ?_) (fun hc hk => (own_said (chk_own1 hc)).2.2.1 hk)
  have := letters_size (own_said (chk_own1 hc)).2.2.2.2.1
  simp only [JV.text]
  omega
theorem pc4E (G : Nat → Option (List AV)) (v : JV) (e : Int) (hfit : Fit v) (h16 : Pc (Cf G) 16 [.agg (enc v)] (withE nullV e)) (he : e ≠ 0) (hr : 0 ≤ e ∧ e ≤ 100) :
    Pc (Cf G) 4 [.agg (enc v)] (.sc (.bool true)) := by
  have h11 := pc11 G
  have h17 := pc17A G v hfit
  have h13 := pc13 G e (by omega)
  obtain ⟨w, f, hw⟩ := len_any v
  rw [hw] at h17
  obtain ⟨k, ng, cf, ex, t, l, ks⟩ := v
  obtain ⟨k1, ng1, cf1, ex1, t1, l1, ks1⟩ := w
  simp only [withE, nullV, enc, encs, u32s, strs, List.map_nil, List.length_nil] at h16 h17 ⊢
  refine Pc_of (Gf_enter (C := Cf G) Tryz.func4 rfl ok4 (Nat.le_of_ble_eq_true rfl) ?_)
  simp only [Tryz.f4, Option.getD_some]
  refine wC1 he (wa h11 (wa h16 (wa h17 (wa h13 trivial)))) ?_
  simp only [one1, frz_s, Option.map_some]
theorem idxS_mem {ks : List ByteArray} {s : ByteArray} (h : s ∈ ks) : decide (0 ≤ idxS ks s 0) = true := decide_eq_true ((idxS_neg ks s 0).2 h)
set_option maxHeartbeats 8000000 in
set_option maxRecDepth 100000 in
theorem pc4T (G : Nat → Option (List AV)) (ng : Bool) (cf : List Int) (ex : Int) (t : ByteArray) (l : List JV) (ks : List ByteArray)
    (hv : Fit (.mk 6 ng cf ex t l ks)) (hc : chk (.mk 6 ng cf ex t l ks) = 0) : Pc (Cf G) 4 [.agg (enc (.mk 6 ng cf ex t l ks))] (.sc (.bool true)) := by
  obtain ⟨_, hl, _, hk, _, hks⟩ := own_said (chk_own1 hc)
  have hk := hk rfl
  have h11 := pc11 G
  have h16 := pc16T G ng cf ex t l ks hv hc hk hl
  have h17 := pc17A G _ hv
  rw [show lenR (.mk 6 ng cf ex t l ks) = withE (numV l.length) 0 by simp [lenR, hc, JV.kind, JV.list]] at h17
  have h13 := pc13 G 0 (by omega)
  have h13b := pc13 G 41 (by omega)
  have h19 := pc19 G l.length (by omega)
  have h14 := pc14 G (numV l.length) (num_fit (by omega))
  have h18 := fun s (hs : s ∈ ks) => pc18T G ng cf ex t l ks s hv (text_fit (hks s hs)) (chks_two hc (text_chk (hks s hs)))
  have h18x := pc18X G ng cf ex t l ks l.length hv (num_fit (by omega)) (chks_two hc (num_chk (by omega)))
  simp only [withE, numV, enc, encs, u32s, strs, List.map_nil, List.length_nil, List.length_map, hk] at h16 h17 h14 h18 h18x h19 ⊢
  refine Pc_of (Gf_enter (C := Cf G) Tryz.func4 rfl ok4 (Nat.le_of_ble_eq_true rfl) ?_)
  simp only [Tryz.f4, Option.getD_some]
  refine wC1 trivial (wa h11 (wa h16 (wa h17 (wa h13 trivial)))) ?_
  refine Gc_loop_inv (fun m st => ∃ d r, ks = d ++ r ∧ m = r.length ∧ st.T 1 = .ptr 0 0 ∧ st.T 3 = .ptr 1 0 ∧ st.T 5 = .ptr 2 0 ∧ st.T 6 = .sc (.int .i64 0) ∧ st.T 7 = .sc (.int .i64 d.length) ∧
    st.h 0 = some (.cells [.sc (.int .i64 6), .sc (.bool ng), .psl (cf.map fun x => .sc (.int .u32 x)) cf.length, .sc (.int .i64 ex), .sc (.string t), .psl (encs l) l.length, .psl (ks.map fun s => .sc (.string s)) l.length] 0 false) ∧
    st.h 1 = some (.cells [.sc (.int .i64 5), .sc (.bool false), .psl [] 0, .sc (.int .i64 0), .sc (.string ⟨#[]⟩), .psl (encs (ks.map textV)) l.length, .psl [] 0] 0 false) ∧
    st.h 2 = some (.cells [.sc (.int .i64 3), .sc (.bool (intD l.length).1), .psl ((lim (intD l.length).2.1).map fun x => .sc (.int .u32 x)) (lim (intD l.length).2.1).length, .sc (.int .i64 (intD l.length).2.2), .sc (.string ⟨#[]⟩), .psl [] 0, .psl [] 0] 0 false)) ?_ ks.length _ ⟨[], ks, rfl, rfl, rfl, rfl, rfl, rfl, rfl, rfl, rfl, rfl⟩
  rintro m ⟨T, h, n⟩ ⟨d, r, hdr, rfl, t1, t3, t5, t6, t7, b0, b1, b2⟩
  simp only at t1 t3 t5 t6 t7 b0 b1 b2
  cases r with
  | nil =>
    have e : d = ks := by rw [hdr]; simp
    have hge : ¬ (d.length : Int) < (l.length : Int) := by rw [e, hk]; omega
    refine wC1 (wa t1 (wa t3 (wa t5 (wa t6 (wa t7 (wa b0 (wa b1 (wa b2 hge)))))))) (wa h13 (wa h14 (wa h18x (wa h19 trivial)))) ?_
    simp only [one1, frz_s, Option.map_some]
  | cons s r =>
    have hs : s ∈ ks := by rw [hdr]; simp
    have hlt : (d.length : Int) < (l.length : Int) := by rw [← hk, hdr]; simp; omega
    have hltn : d.length < l.length := by omega
    obtain ⟨x, r', hr', _, hcut, hle⟩ := split_at (l := ks.map textV) (d := d.map textV) (r := (s :: r).map textV) (by rw [hdr]; simp) (by rw [hdr]; simp)
    simp only [List.map_cons, List.cons.injEq, List.length_map] at hr' hcut hle
    rw [← hr'.1] at hcut
    have h18s := h18 s hs
    rw [idxS_mem hs] at h18s
    have w1 : IntKind.i64.wrap ((d.length : Int) + 1) = (d.length : Int) + 1 := i64 (by omega) (by omega)
    refine wC1 (wa t1 (wa t3 (wa t5 (wa t6 (wa t7 (wa b0 (wa b1 (wa b2 (wa hlt (wa hltn (wa hcut (wa hle w1)))))))))))) (wa h13 (wa h18s trivial)) ?_
    refine ⟨r.length, by simp, d ++ [s], r, by simp [hdr], rfl, ?_, ?_, ?_, ?_, ?_, ?_, ?_, ?_⟩
    all_goals simp only [vop, val, argsT, upd_ap, Nat.reduceEqDiff, if_true, if_false, ite_true, ite_false, reduceIte, loadAt, loadA, AV.cells, AV.one, List.all_cons, List.all_nil, ofV, ofCell, plain, List.getElem?_cons_zero, List.getElem?_cons_succ, List.getElem?_toArray, Option.getD_some, Bool.not_true, Bool.not_false, Bool.false_eq_true, Bool.and_true, Bool.true_and, Bool.and_self, Nat.zero_add, Option.map_some, Option.bind_some, List.map_cons, List.map_nil, ev_add, ev_sub, ev_mul, ev_lss, ev_leq, ev_gtr, ev_geq, ev_eql, ev_neq, ev_seql, ev_sneq, ev_sleq, ev_slss, ev_not, ev_min, ev_max, asNat_nat, asNat_zero, asNat_one, asNat_two, asNat_three, vb_len, List.length_cons, List.length_nil, Nat.reduceAdd, Nat.reduceLeDiff, Nat.reduceMul, Int.reduceEq, Int.reduceLT, Int.reduceLE, Int.reduceNeg, Int.reduceAdd, Int.reduceSub, Nat.reduceLT, decide_true, decide_false, not_true_eq_false, not_false_eq_true, and_self, and_true, true_and, storeA, List.take_zero, List.drop_succ_cons, List.drop_zero, List.nil_append, List.append_nil, List.take_succ_cons, List.cons_append, cut_cons, cut_zero, cut_skip, tAt, hHide, hAt, upsAt, List.contains_cons, List.contains_nil, Nat.reduceBEq, Bool.or_true, Bool.true_or, Bool.or_false, Bool.false_or, Bool.or_self, Bool.and_true, Bool.true_and, Bool.and_false, Bool.false_and, beq_self_eq_true (α := Nat), Option.some_beq_some, Option.none_beq_some, Option.some_beq_none, Bool.false_eq_true, List.all_nil, touch, touchB, Nat.sub_self, List.range'_zero, Nat.add_sub_cancel_left, List.range'_one, t1, t3, t5, t6, b0, b1, b2, List.length_append]
    rfl
set_option maxHeartbeats 8000000 in
set_option maxRecDepth 100000 in
theorem pc4N (G : Nat → Option (List AV)) (ng : Bool) (cf : List Int) (ex : Int) (t : ByteArray) (l : List JV) (ks : List ByteArray)
    (hv : Fit (.mk 5 ng cf ex t l ks)) (hc : chk (.mk 5 ng cf ex t l ks) = 0) : Pc (Cf G) 4 [.agg (enc (.mk 5 ng cf ex t l ks))] (.sc (.bool true)) := by
  obtain ⟨_, hl, _, _, _, _⟩ := own_said (chk_own1 hc)
  have h11 := pc11 G
  have h16 := pc16N G ng cf ex t l ks hv hc hl
  have h17 := pc17A G _ hv
  rw [show lenR (.mk 5 ng cf ex t l ks) = withE (numV l.length) 0 by simp [lenR, hc, JV.kind, JV.list]] at h17
  have h13 := pc13 G 0 (by omega)
  have h19 := pc19 G l.length (by omega)
  have h14 := pc14 G (numV l.length) (num_fit (by omega))
  have h18 := fun m (hm : m < l.length) => pc18N G ng cf ex t l ks m (by omega) hv (num_fit (by omega)) (chks_two hc (num_chk (by omega)))
  have h18x := pc18N G ng cf ex t l ks l.length (by omega) hv (num_fit (by omega)) (chks_two hc (num_chk (by omega)))
  rw [decide_eq_false (Nat.lt_irrefl _)] at h18x
  have henc : ∀ m, enc (numV m) = [.sc (.int .i64 3), .sc (.bool (intD m).1), .psl ((lim (intD m).2.1).map fun x => .sc (.int .u32 x)) (lim (intD m).2.1).length, .sc (.int .i64 (intD m).2.2), .sc (.string ⟨#[]⟩), .psl [] 0, .psl [] 0] := fun m => rfl
  have hrl : ((List.range l.length).map numV).length = l.length := by simp
  simp only [withE, henc, enc, encs, u32s, strs, List.map_nil, List.length_nil, List.length_map, List.length_range] at h16 h17 h14 h18 h18x h19 ⊢
  generalize hN : (List.range l.length).map numV = N at *
  have hNi : ∀ m, m < l.length → cut (encs N) (m * 7) 7 = enc (numV m) ∧ m * 7 + 7 ≤ (encs N).length := by
    intro m hm
    have e : N = (List.range m).map numV ++ numV m :: ((List.range (l.length - m - 1)).map fun j => numV (m + 1 + j)) := by
      rw [← hN]
      have : List.range l.length = List.range m ++ m :: (List.range (l.length - m - 1)).map fun j => m + 1 + j := by
        rw [show l.length = m + (1 + (l.length - m - 1)) by omega, List.range_add, show m + (1 + (l.length - m - 1)) - m - 1 = l.length - m - 1 by omega, Nat.add_comm 1, List.range_succ_eq_map]
        simp [Function.comp_def, Nat.add_assoc, Nat.add_comm, Nat.add_left_comm]
      rw [this]
      simp [Function.comp_def]
    obtain ⟨x, r', hr', _, hcut, hle⟩ := split_at e (by rw [e]; simp)
    simp only [List.cons.injEq, List.length_map, List.length_range] at hr' hcut hle
    rw [← hr'.1] at hcut
    exact ⟨hcut, hle⟩
  refine Pc_of (Gf_enter (C := Cf G) Tryz.func4 rfl ok4 (Nat.le_of_ble_eq_true rfl) ?_)
  simp only [Tryz.f4, Option.getD_some]
  refine wC1 trivial (wa h11 (wa h16 (wa h17 (wa h13 trivial)))) ?_
  refine Gc_loop_inv (fun m st => ∃ k, k + m = l.length ∧ st.T 1 = .ptr 0 0 ∧ st.T 3 = .ptr 1 0 ∧ st.T 5 = .ptr 2 0 ∧ st.T 6 = .sc (.int .i64 0) ∧ st.T 7 = .sc (.int .i64 k) ∧
    st.h 0 = some (.cells [.sc (.int .i64 5), .sc (.bool ng), .psl (cf.map fun x => .sc (.int .u32 x)) cf.length, .sc (.int .i64 ex), .sc (.string t), .psl (encs l) l.length, .psl (ks.map fun s => .sc (.string s)) ks.length] 0 false) ∧
    st.h 1 = some (.cells [.sc (.int .i64 5), .sc (.bool false), .psl [] 0, .sc (.int .i64 0), .sc (.string ⟨#[]⟩), .psl (encs N) l.length, .psl [] 0] 0 false) ∧
    st.h 2 = some (.cells [.sc (.int .i64 3), .sc (.bool (intD l.length).1), .psl ((lim (intD l.length).2.1).map fun x => .sc (.int .u32 x)) (lim (intD l.length).2.1).length, .sc (.int .i64 (intD l.length).2.2), .sc (.string ⟨#[]⟩), .psl [] 0, .psl [] 0] 0 false)) ?_ l.length _ ⟨0, Nat.zero_add _, rfl, rfl, rfl, rfl, rfl, rfl, rfl, rfl⟩
  rintro m ⟨T, h, n⟩ ⟨k, hkm, t1, t3, t5, t6, t7, b0, b1, b2⟩
  simp only at t1 t3 t5 t6 t7 b0 b1 b2
  cases m with
  | zero =>
    have e : k = l.length := by omega
    have hge : ¬ (k : Int) < (l.length : Int) := by omega
    refine wC1 (wa t1 (wa t3 (wa t5 (wa t6 (wa t7 (wa b0 (wa b1 (wa b2 hge)))))))) (wa h13 (wa h14 (wa h18x (wa h19 trivial)))) ?_
    simp only [one1, frz_s, Option.map_some]
  | succ m =>
    have hlt : (k : Int) < (l.length : Int) := by omega
    have hltn : k < l.length := by omega
    obtain ⟨hcut, hle⟩ := hNi k hltn
    have h18s := h18 k hltn
    rw [decide_eq_true hltn] at h18s
    rw [henc] at hcut
    have w1 : IntKind.i64.wrap ((k : Int) + 1) = ((k + 1 : Nat) : Int) := by rw [i64 (by omega) (by omega)]; omega
    refine wC1 (wa t1 (wa t3 (wa t5 (wa t6 (wa t7 (wa b0 (wa b1 (wa b2 (wa hlt (wa hltn (wa hcut (wa hle w1)))))))))))) (wa h13 (wa h18s trivial)) ?_
    refine ⟨m, by omega, k + 1, by omega, ?_, ?_, ?_, ?_, ?_, ?_, ?_, ?_⟩
    all_goals simp only [vop, val, argsT, upd_ap, Nat.reduceEqDiff, if_true, if_false, ite_true, ite_false, reduceIte, loadAt, loadA, AV.cells, AV.one, List.all_cons, List.all_nil, ofV, ofCell, plain, List.getElem?_cons_zero, List.getElem?_cons_succ, List.getElem?_toArray, Option.getD_some, Bool.not_true, Bool.not_false, Bool.false_eq_true, Bool.and_true, Bool.true_and, Bool.and_self, Nat.zero_add, Option.map_some, Option.bind_some, List.map_cons, List.map_nil, ev_add, ev_sub, ev_mul, ev_lss, ev_leq, ev_gtr, ev_geq, ev_eql, ev_neq, ev_seql, ev_sneq, ev_sleq, ev_slss, ev_not, ev_min, ev_max, asNat_nat, asNat_zero, asNat_one, asNat_two, asNat_three, vb_len, List.length_cons, List.length_nil, Nat.reduceAdd, Nat.reduceLeDiff, Nat.reduceMul, Int.reduceEq, Int.reduceLT, Int.reduceLE, Int.reduceNeg, Int.reduceAdd, Int.reduceSub, Nat.reduceLT, decide_true, decide_false, not_true_eq_false, not_false_eq_true, and_self, and_true, true_and, storeA, List.take_zero, List.drop_succ_cons, List.drop_zero, List.nil_append, List.append_nil, List.take_succ_cons, List.cons_append, cut_cons, cut_zero, cut_skip, tAt, hHide, hAt, upsAt, List.contains_cons, List.contains_nil, Nat.reduceBEq, Bool.or_true, Bool.true_or, Bool.or_false, Bool.false_or, Bool.or_self, Bool.and_true, Bool.true_and, Bool.and_false, Bool.false_and, beq_self_eq_true (α := Nat), Option.some_beq_some, Option.none_beq_some, Option.some_beq_none, Bool.false_eq_true, List.all_nil, touch, touchB, Nat.sub_self, List.range'_zero, Nat.add_sub_cancel_left, List.range'_one, t1, t3, t5, t6, b0, b1, b2]
theorem pc4 (G : Nat → Option (List AV)) (v : JV) (hfit : Fit v) : Pc (Cf G) 4 [.agg (enc v)] (.sc (.bool true)) := by
  have hr := chk_rng v
  by_cases hc : chk v = 0
  · obtain ⟨k, ng, cf, ex, t, l, ks⟩ := v
    have hk := (own_said (chk_own1 hc)).1
    by_cases h5 : k = 5
    · subst h5
      exact pc4N G ng cf ex t l ks hfit hc
    · by_cases h6 : k = 6
      · subst h6
        exact pc4T G ng cf ex t l ks hfit hc
      · exact pc4E G _ 41 hfit (pc16K G k ng cf ex t l ks hfit hc (by omega)) (by omega) (by omega)
  · refine pc4E G v _ hfit ?_ hc hr
    obtain ⟨k, ng, cf, ex, t, l, ks⟩ := v
    exact pc16E G k ng cf ex t l ks hfit hc
end Go.Proofs.Bv
