/-
  A part of the proof of CliLettersUptoCardSaid: CkDig.
  Conditions: those that each part names.
-/
set_option linter.unusedSimpArgs false
set_option linter.unusedVariables false
namespace Go.Proofs.Bv
def nv : List Int → Int
  | [] => 0
  | x :: r => x + 4294967296 * nv r
def Limbs (l : List Int) : Prop := ∀ c ∈ l, 0 ≤ c ∧ c ≤ 4294967295
theorem Limbs.tail {x : Int} {l : List Int} (h : Limbs (x :: l)) : Limbs l := fun c hc => h c (List.mem_cons_of_mem _ hc)
theorem Limbs.head {x : Int} {l : List Int} (h : Limbs (x :: l)) : 0 ≤ x ∧ x ≤ 4294967295 := h x (by simp)
theorem Limbs.cons {x : Int} {l : List Int} (hx : 0 ≤ x ∧ x ≤ 4294967295) (h : Limbs l) : Limbs (x :: l) := by
  intro c hc
  rcases List.mem_cons.1 hc with rfl | hc
  · exact hx
  · exact h c hc
theorem Limbs.app {a b : List Int} : Limbs (a ++ b) ↔ Limbs a ∧ Limbs b := by
  constructor
  · intro h
    exact ⟨fun c hc => h c (List.mem_append.2 (.inl hc)), fun c hc => h c (List.mem_append.2 (.inr hc))⟩
  · rintro ⟨h1, h2⟩ c hc
    rcases List.mem_append.1 hc with hc | hc
    · exact h1 c hc
    · exact h2 c hc
theorem nv_nonneg : {l : List Int} → Limbs l → 0 ≤ nv l
  | [], _ => by simp [nv]
  | x :: r, h => by
    have h1 := nv_nonneg h.tail
    have h2 := h.head
    simp only [nv]
    omega
theorem nv_snoc_zero : (l : List Int) → nv (l ++ [0]) = nv l
  | [] => by simp [nv]
  | x :: r => by simp only [List.cons_append, nv, nv_snoc_zero r]
def trimL : List Int → List Int
  | [] => []
  | x :: r => match trimL r with
    | [] => if x = 0 then [] else [x]
    | y :: t => x :: y :: t
theorem trimL_snoc_zero : (l : List Int) → trimL (l ++ [0]) = trimL l
  | [] => by simp [trimL]
  | x :: r => by simp only [List.cons_append, trimL, trimL_snoc_zero r]
theorem trimL_snoc {x : Int} (hx : x ≠ 0) : (l : List Int) → trimL (l ++ [x]) = l ++ [x]
  | [] => by simp [trimL, hx]
  | y :: r => by
    simp only [List.cons_append, trimL, trimL_snoc hx r]
    cases r <;> simp
theorem nv_trim : (l : List Int) → nv (trimL l) = nv l
  | [] => rfl
  | x :: r => by
    have ih := nv_trim r
    simp only [trimL]
    split
    · rename_i e
      rw [e] at ih
      split
      · rename_i hx
        simp only [nv] at ih ⊢
        omega
      · simp only [nv] at ih ⊢
        omega
    · rename_i y t e
      rw [e] at ih
      simp only [nv] at ih ⊢
      omega
theorem trim_limbs : {l : List Int} → Limbs l → Limbs (trimL l)
  | [], _ => by simp [trimL, Limbs]
  | x :: r, h => by
    have ih := trim_limbs h.tail
    simp only [trimL]
    split
    · split
      · simp [Limbs]
      · exact Limbs.cons h.head (by simp [Limbs])
    · rename_i y t e
      rw [e] at ih
      exact Limbs.cons h.head ih
theorem trim_len : (l : List Int) → (trimL l).length ≤ l.length
  | [] => by simp [trimL]
  | x :: r => by
    have ih := trim_len r
    simp only [trimL]
    split
    · split <;> simp
    · rename_i y t e
      rw [e] at ih
      simpa using ih
def TopOk (l : List Int) : Prop := ∀ x, l.getLast? = some x → x ≠ 0
theorem TopOk.tail {x y : Int} {l : List Int} (h : TopOk (x :: y :: l)) : TopOk (y :: l) := fun z hz => h z (by simpa [List.getLast?_cons_cons] using hz)
theorem trim_top : (l : List Int) → TopOk (trimL l)
  | [] => by simp [trimL, TopOk]
  | x :: r => by
    have ih := trim_top r
    simp only [trimL]
    split
    · split
      · simp [TopOk]
      · rename_i hx
        intro z hz
        simp at hz
        subst hz
        exact hx
    · rename_i y t e
      rw [e] at ih
      intro z hz
      rw [List.getLast?_cons_cons] at hz
      exact ih z hz
theorem trim_id : {l : List Int} → TopOk l → trimL l = l
  | [], _ => rfl
  | [x], h => by
    have : x ≠ 0 := h x (by simp)
    simp [trimL, this]
  | x :: y :: r, h => by
    have ih := trim_id h.tail
    rw [trimL, ih]
theorem nv_pos : {l : List Int} → Limbs l → TopOk l → l ≠ [] → 0 < nv l
  | [], _, _, h => absurd rfl h
  | [x], hl, h, _ => by
    have h1 : x ≠ 0 := h x (by simp)
    have h2 := hl.head
    simp only [nv]
    omega
  | x :: y :: r, hl, h, _ => by
    have ih := nv_pos hl.tail h.tail (by simp)
    have h2 := hl.head
    simp only [nv] at ih ⊢
    omega
theorem nv_zero_iff {l : List Int} (hl : Limbs l) (h : TopOk l) : nv l = 0 ↔ l = [] := by
  constructor
  · intro e
    cases l with
    | nil => rfl
    | cons x r => have := nv_pos hl h (by simp); omega
  · rintro rfl
    rfl
def dmQ : List Int → Int → List Int
  | [], _ => []
  | x :: r, d => let c := nv r % d; ((c * 4294967296 + x) / d) :: dmQ r d
theorem dmQ_len : (l : List Int) → (d : Int) → (dmQ l d).length = l.length
  | [], _ => rfl
  | x :: r, d => by simp [dmQ, dmQ_len r d]
theorem nv_mod_cons (x : Int) (r : List Int) (d : Int) : nv (x :: r) % d = (nv r % d * 4294967296 + x) % d := by
  simp only [nv]
  rw [Int.add_emod, Int.mul_emod, Int.add_emod (nv r % d * 4294967296), Int.mul_emod (nv r % d), Int.emod_emod, Int.add_comm, Int.mul_comm (nv r % d)]
theorem nv_dmQ {d : Int} (hd : 0 < d) : (l : List Int) → nv (dmQ l d) = nv l / d
  | [] => by simp [dmQ, nv]
  | x :: r => by
    have ih := nv_dmQ hd r
    have e := Int.mul_ediv_add_emod (nv r) d
    simp only [dmQ, nv, ih]
    have e2 : x + 4294967296 * nv r = (nv r % d * 4294967296 + x) + d * (4294967296 * (nv r / d)) := by
      have : 4294967296 * nv r = 4294967296 * (d * (nv r / d) + nv r % d) := by rw [e]
      rw [this, Int.mul_add, ← Int.mul_assoc, ← Int.mul_assoc, Int.mul_comm 4294967296 d]
      omega
    rw [e2, Int.add_mul_ediv_left _ _ (by omega)]
theorem dmQ_limbs {d : Int} (hd : 0 < d) : {l : List Int} → Limbs l → Limbs (dmQ l d)
  | [], _ => by simp [dmQ, Limbs]
  | x :: r, h => by
    have ih := dmQ_limbs hd h.tail
    have h1 := h.head
    have h2 := Int.emod_nonneg (nv r) (show d ≠ 0 by omega)
    have h3 := Int.emod_lt_of_pos (nv r) hd
    simp only [dmQ]
    refine Limbs.cons ⟨Int.ediv_nonneg (by omega) (by omega), ?_⟩ ih
    have : (nv r % d * 4294967296 + x) / d < 4294967296 := by
      apply Int.ediv_lt_of_lt_mul hd
      have : nv r % d + 1 ≤ d := by omega
      have := Int.mul_le_mul_of_nonneg_left this (show (0 : Int) ≤ 4294967296 by omega)
      rw [Int.mul_add] at this
      have e := Int.mul_comm (nv r % d) 4294967296
      omega
    omega
def digs (n : Nat) : List Nat := if h : n = 0 then [] else n % 10 :: digs (n / 10)
termination_by n
decreasing_by omega
theorem digs_zero : digs 0 = [] := by rw [digs]; simp
theorem digs_pos {n : Nat} (h : 0 < n) : digs n = n % 10 :: digs (n / 10) := by
  rw [digs, dif_neg (by omega)]
theorem digs_nil {n : Nat} : digs n = [] ↔ n = 0 := by
  constructor
  · intro e
    rcases Nat.eq_zero_or_pos n with h | h
    · exact h
    · rw [digs_pos h] at e; cases e
  · rintro rfl
    exact digs_zero
theorem digs_lt (n : Nat) : ∀ d ∈ digs n, d < 10 := by
  induction n using Nat.strongRecOn with
  | ind n ih =>
    rcases Nat.eq_zero_or_pos n with rfl | h
    · simp [digs_zero]
    · rw [digs_pos h]
      intro d hd
      rcases List.mem_cons.1 hd with rfl | hd
      · omega
      · exact ih (n / 10) (by omega) d hd
def dv : List Nat → Nat
  | [] => 0
  | d :: r => d + 10 * dv r
theorem dv_digs (n : Nat) : dv (digs n) = n := by
  induction n using Nat.strongRecOn with
  | ind n ih =>
    rcases Nat.eq_zero_or_pos n with rfl | h
    · simp [digs_zero, dv]
    · rw [digs_pos h, dv, ih (n / 10) (by omega)]
      omega
theorem digs_tail {n d : Nat} {r : List Nat} (h : digs n = d :: r) : r = digs (n / 10) ∧ d = n % 10 ∧ 0 < n := by
  have hp : 0 < n := by
    rcases Nat.eq_zero_or_pos n with rfl | h'
    · rw [digs_zero] at h; cases h
    · exact h'
  rw [digs_pos hp] at h
  injection h with h1 h2
  exact ⟨h2.symm, h1.symm, hp⟩
theorem digs_len_mono : (n : Nat) → (m : Nat) → n ≤ m → (digs n).length ≤ (digs m).length := by
  intro n
  induction n using Nat.strongRecOn with
  | ind n ih =>
    intro m h
    rcases Nat.eq_zero_or_pos n with rfl | hn
    · simp [digs_zero]
    · rw [digs_pos hn, digs_pos (by omega : 0 < m)]
      simp only [List.length_cons, Nat.add_le_add_iff_right]
      exact ih (n / 10) (by omega) (m / 10) (by omega)
end Go.Proofs.Bv
