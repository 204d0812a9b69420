/-
  A part of the proof of CliLettersUptoCardSaid: BvEv3.
  Conditions: those that each part names.
-/
import Derived.Test.YtplbncajfignlaaGreatDoorCl08
import Derived.IntWalk
set_option linter.unusedSimpArgs false
set_option linter.unusedVariables false
namespace Go.Proofs.Bv
open Go
section
variable {P : Program} {h : Heap} {n t : Nat} {xo yo : Operand}
theorem ev_shr32 {yk : IntKind} {a : Int} : vbin P .shr t xo yo (.sc (.int .u64 a)) (.sc (.int yk 32)) = some (.sc (.int .u64 (a / 4294967296))) := by
  rw [ev_shr (by omega)]
  have : ((2 : Int) ^ (min (32 : Int).toNat IntKind.u64.bits)) = 4294967296 := by decide
  rw [this, Int.fdiv_eq_ediv_of_nonneg _ (by omega)]
theorem ev_shl32 {yk : IntKind} {a : Int} : vbin P .shl t xo yo (.sc (.int .u64 a)) (.sc (.int yk 32)) = some (.sc (.int .u64 (IntKind.u64.wrap (a * 4294967296)))) := by
  rw [ev_shl (by omega)]
  have : ((2 : Int) ^ (min (32 : Int).toNat IntKind.u64.bits)) = 4294967296 := by decide
  rw [this]
theorem or_high (x y : Nat) (hy : y < 4294967296) : x * 4294967296 ||| y = x * 4294967296 + y := by
  have h := Nat.two_pow_add_eq_or_of_lt (i := 32) (b := y) hy x
  rw [show (2 : Nat) ^ 32 = 4294967296 from rfl, Nat.mul_comm] at h
  exact h.symm
theorem or32 {a b : Int} (ha : 0 ≤ a ∧ a ≤ 4294967295) (hb : 0 ≤ b ∧ b ≤ 4294967295) : IntKind.u64.wrap ((BitVec.ofInt 64 (a * 4294967296) ||| BitVec.ofInt 64 b).toNat : Int) = a * 4294967296 + b := by
  have e1 : (BitVec.ofInt 64 (a * 4294967296)).toNat = a.toNat * 4294967296 := by
    rw [BitVec.toNat_ofInt]
    have : (((2 ^ 64 : Nat) : Int)) = 18446744073709551616 := rfl
    rw [this]
    omega
  have e2 : (BitVec.ofInt 64 b).toNat = b.toNat := by
    rw [BitVec.toNat_ofInt]
    have : (((2 ^ 64 : Nat) : Int)) = 18446744073709551616 := rfl
    rw [this]
    omega
  rw [BitVec.toNat_or, e1, e2, or_high _ _ (by omega), IntWalk.u64_in _ (by omega)]
  omega
def InfoIs (P : Program) (e sz by_ : Nat) : Prop := (P.info? e).map (fun i => (i.size, i.bytes, i.zero.map fun z => z.cells.size)) = some (sz, by_, some sz)
theorem InfoIs.get {e sz by_ : Nat} (hi : InfoIs P e sz by_) : ∃ i, P.info? e = some i ∧ i.size = sz ∧ i.bytes = by_ ∧ (i.zero.map fun z => z.cells.size) = some sz := by
  unfold InfoIs at hi
  cases hq : P.info? e with
  | none => rw [hq] at hi; cases hi
  | some i =>
    rw [hq] at hi
    simp only [Option.map_some, Option.some.injEq, Prod.mk.injEq] at hi
    exact ⟨i, rfl, hi.1, hi.2.1, hi.2.2⟩
def appA (sz by_ : Nat) (s : AV) (src : Option (List AV × Nat)) (h : Heap) (n : Nat) : Out :=
  match src with
  | some (xs, l) =>
    if xs.length = l * sz then
      match s with
      | .nilS => if l * by_ ≤ 140737488355328 ∧ l ≤ 140737488355328 then (if l = 0 then some (.nilS, h, n) else some (.osl n 0 l, upd h n (some (.cells xs sz false)), n + 1)) else none
      | .osl b off len =>
        match h b with
        | some (.cells cs es false) =>
          if es = sz ∧ off + len * es ≤ cs.length ∧ (len + l) * by_ ≤ 140737488355328 ∧ len + l ≤ 140737488355328 then
            some (.osl n 0 (len + l), upd (upd h b none) n (some (.cells (cut cs off (len * es) ++ xs) es false)), n + 1)
          else none
        | _ => none
      | _ => none
    else none
  | none => none
theorem vb_append {t xt e sz by_ : Nat} {xd : TypeDesc} {s x : AV} (ht : P.underlying t = some (.slice e)) (hxt : P.underlying xt = some xd) (hi : InfoIs P e sz by_) (hsz : 0 < sz) :
    vbuiltin P .append [t, xt] [s, x] h n = appA sz by_ s (srcOf h xd x) h n := by
  obtain ⟨i, h1, rfl, rfl, h4⟩ := hi.get
  unfold vbuiltin appA
  simp only [ht, hxt, h1, h4]
  cases hq : srcOf h xd x with
  | none => rfl
  | some r =>
    obtain ⟨xs, l⟩ := r
    simp only
    by_cases hx : xs.length = l * i.size
    · have hne : ¬ (i.size = 0 ∨ xs.length ≠ l * i.size ∨ (i.zero.map fun z => z.cells.size) ≠ some i.size) := by
        rintro (h | h | h)
        · omega
        · exact h hx
        · exact h h4
      rw [if_neg hne, if_pos hx]
      rfl
    · rw [if_pos (.inr (.inl hx)), if_neg hx]
def mkA (sz by_ : Nat) (z : Option (List AV)) (l c : Option Nat) (h : Heap) (n : Nat) : Out :=
  match z, l, c with
  | some z, some l, some c => if l ≤ c ∧ c * by_ ≤ 140737488355328 ∧ c ≤ 140737488355328 ∧ z.length = sz then some (.osl n 0 l, upd h n (some (.cells (rep l z) sz false)), n + 1) else none
  | _, _, _ => none
theorem vo_make {ρ : Operand → AV} {t e sz by_ : Nat} {l c : Operand} (ht : P.underlying t = some (.slice e)) (hi : InfoIs P e sz by_) (hsz : 0 < sz) :
    vop P ρ h n (.makeSlice t l c) = mkA sz by_ (zeroA P e) (asNat (ρ l)) (asNat (ρ c)) h n := by
  obtain ⟨i, h1, rfl, rfl, h4⟩ := hi.get
  unfold vop mkA
  simp only [ht]
  cases asNat (ρ l) <;> cases asNat (ρ c) <;> simp only
  · cases zeroA P e <;> rfl
  · cases zeroA P e <;> rfl
  · cases zeroA P e <;> rfl
  · rw [h1]
    cases zeroA P e <;> simp [hsz]
def copyA (sz : Nat) (d : AV) (src : Option (List AV × Nat)) (h : Heap) (n : Nat) : Out :=
  match d, src with
  | .osl b off len, some (xs, l) =>
    match h b with
    | some (.cells cs es false) =>
      if es = sz ∧ xs.length = l * sz ∧ off + len * es ≤ cs.length then some (.sc (.int .i64 (min l len)), upd h b (some (.cells (storeA cs off (xs.take (min l len * es))) es false)), n) else none
    | _ => none
  | _, _ => none
theorem vb_copy {t xt e sz by_ : Nat} {xd : TypeDesc} {d x : AV} (ht : P.underlying t = some (.slice e)) (hxt : P.underlying xt = some xd) (hi : InfoIs P e sz by_) :
    vbuiltin P .copy [t, xt] [d, x] h n = copyA sz d (srcOf h xd x) h n := by
  obtain ⟨i, h1, rfl, rfl, h4⟩ := hi.get
  unfold vbuiltin copyA
  simp only [ht, hxt]
  cases d <;> simp only
  rw [h1]
  cases hq : srcOf h xd x with
  | none => rfl
  | some r =>
    obtain ⟨xs, l⟩ := r
    rename_i b off len
    simp only
    cases hb : h b with
    | none => rfl
    | some k =>
      cases k with
      | loop L => rfl
      | cells cs es fz => cases fz <;> rfl
end
end Go.Proofs.Bv
