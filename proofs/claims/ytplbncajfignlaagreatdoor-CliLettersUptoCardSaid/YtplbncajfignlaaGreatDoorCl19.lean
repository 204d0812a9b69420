/-
  A part of the proof of CliLettersUptoCardSaid: CkOpen.
  Conditions: those that each part names.
-/
import Derived.Test.YtplbncajfignlaaGreatDoorCl18
import Derived.Test.YtplbncajfignlaaGreatDoorRows
import Derived.ChangeArms
import Derived.ChangeShapes
import Derived.OpenShut
import Derived.DataReads
set_option linter.unusedSimpArgs false
set_option linter.unusedVariables false
namespace Go.Proofs.Bv
open Go Go.Proofs.YtplbncajfignlaaGreatDoor
section
variable {H : Type} {en : TypeId × Value → H} {P : Program} {W : World}
def Old (W : World) (r : Nat) : Prop := r < W.heap.size
theorem bulk_one {H : Type} (d : DataW H) : 1 ≤ Rows.uptoBulk d := by
  cases d with
  | lit l => cases l <;> simp [Rows.uptoBulk]
  | nil => simp [Rows.uptoBulk]
  | ptr d => simp [Rows.uptoBulk]
  | slice elems spare => simp [Rows.uptoBulk]
  | agg parts => simp [Rows.uptoBulk]
  | iface t d => simp [Rows.uptoBulk]
  | map entries => simp [Rows.uptoBulk]
  | held h => simp [Rows.uptoBulk]
theorem bulk_part {H : Type} {d : DataW H} {l : List (DataW H)} (h : d ∈ l) : Rows.uptoBulk d ≤ Rows.uptoBulkAll l := by
  induction l with
  | nil => cases h
  | cons x r ih =>
    simp only [Rows.uptoBulkAll]
    rcases List.mem_cons.1 h with rfl | h
    · omega
    · have := ih h; omega
theorem bulk_len {H : Type} (l : List (DataW H)) : l.length ≤ Rows.uptoBulkAll l := by
  induction l with
  | nil => simp [Rows.uptoBulkAll]
  | cons x r ih => have := bulk_one x; simp only [Rows.uptoBulkAll, List.length_cons]; omega
theorem cell_spot {a : Addr} {v : Value} (h : W.cell? a = some v) : a.spot = none ∧ a.block < W.heap.size := by
  unfold World.cell? at h
  split at h
  · rename_i c e z hb
    split at h
    · cases h
    · rename_i hs
      refine ⟨by simpa using hs, ?_⟩
      exact (Array.getElem?_eq_some_iff.1 hb).1
  · cases h
theorem rows_of {α : Type} {E : α → List AV} {Q : α → Prop} {a : Addr} {c e n len : Nat} {elems : List (DataW H × List MemPlace)} (hlen : elems.length = len)
    (hel : ∀ i, i < len → (W.cells? 0 (a.add (i * c)) c).bind (DataW.trod en P W 0 (fun _ => true) true n e) = elems[i]?)
    (hone : ∀ y ∈ elems, ∀ cs', DataW.trod en P W 0 (fun _ => true) true n e cs' = some y → ∃ v : α, Q v ∧ RVs (Old W) W (E v) noMap cs') :
    ∀ k, k ≤ len → ∃ (l : List α) (us : List Value), l.length = k ∧ (∀ v ∈ l, Q v) ∧ us.length = k * c ∧ (∀ i, i < us.length → W.cell? (a.add i) = us[i]?) ∧ RVs (Old W) W (l.flatMap E) noMap us := by
  intro k
  induction k with
  | zero => exact fun _ => ⟨[], [], rfl, by simp, by simp, by simp, by simp [RVs]⟩
  | succ k ih =>
    intro hk
    obtain ⟨l, us, h1, h2, h3, h4, h5⟩ := ih (by omega)
    have hx := hel k (by omega)
    rw [List.getElem?_eq_getElem (by omega)] at hx
    obtain ⟨cs', h6, h7⟩ := Option.bind_eq_some_iff.1 hx
    obtain ⟨v, hv, hr⟩ := hone _ (List.getElem_mem _) cs' h7
    obtain ⟨_, hl, hc⟩ := World.cells?_some h6
    refine ⟨l ++ [v], us ++ cs', by simp [h1], ?_, ?_, ?_, ?_⟩
    · intro x hx
      rcases List.mem_append.1 hx with hx | hx
      · exact h2 x hx
      · rw [List.mem_singleton.1 hx]; exact hv
    · rw [List.length_append, h3, hl, Nat.succ_mul]
    · intro i hi
      rw [List.length_append] at hi
      by_cases hlt : i < us.length
      · rw [List.getElem?_append_left hlt]
        exact h4 i hlt
      · rw [List.getElem?_append_right (by omega)]
        have := hc (i - us.length) (by omega)
        rw [← this]
        congr 1
        have e : (a.add (k * c)).add (i - us.length) = a.add (k * c + (i - us.length)) := by
          simp only [Addr.add]
          repeat' split
          all_goals first | rfl | omega | (simp_all; done) | (simp_all; omega)
        rw [e, ← h3]
        congr 1
        omega
    · rw [List.flatMap_append]
      simp only [List.flatMap_cons, List.flatMap_nil, List.append_nil]
      exact RVs_append h5 hr
theorem open_psl {α : Type} {E : α → List AV} {Q : α → Prop} {c t e fuel : Nat} {cs : List Value} {x : DataW H × List MemPlace} (ht : P.underlying t = some (.slice e)) (hc : P.cellsOf e = c) (hc0 : 0 < c) (hE : ∀ v, (E v).length = c)
    (h : DataW.trod en P W 0 (fun _ => true) true fuel t cs = some x)
    (hone : ∀ n y, n < fuel → (∀ b, Rows.uptoBulk x.1 ≤ b → Rows.uptoBulk y.1 ≤ b) → ∀ cs', DataW.trod en P W 0 (fun _ => true) true n e cs' = some y → ∃ v : α, Q v ∧ RVs (Old W) W (E v) noMap cs') :
    ∃ (l : List α) (v : Value), cs = [v] ∧ (∀ y ∈ l, Q y) ∧ l.length ≤ Rows.uptoBulk x.1 ∧ RV (Old W) W (.psl (l.flatMap E) l.length) noMap v := by
  rcases DataW.trod_slice ht h with ⟨rfl, rfl⟩ | ⟨a, len, cap, elems, rest, n, rfl, rfl, rfl, _, hle, _, hlen, hel, _, _⟩
  · exact ⟨[], _, rfl, by simp, by simp, by simp only [RV, List.flatMap_nil]; exact ⟨none, 0, rfl, .inl ⟨rfl, trivial, fun _ => rfl⟩⟩⟩
  · rw [hc] at hel
    have hb : elems.length ≤ Rows.uptoBulk (DataW.slice (elems.map (·.1)) (rest.map (·.1))) := by
      have := bulk_len (elems.map (·.1))
      simp only [Rows.uptoBulk]
      rw [List.length_map] at this
      omega
    obtain ⟨l, us, h1, h2, h3, h4, h5⟩ := rows_of (Q := Q) (E := E) hlen hel (fun y hy cs' hy' => hone n y (by omega) (fun b hb => by
      have := bulk_part (List.mem_map.2 ⟨y, hy, rfl⟩ : y.1 ∈ elems.map (·.1))
      simp only [Rows.uptoBulk] at hb
      omega) cs' hy') len (Nat.le_refl _)
    refine ⟨l, _, rfl, h2, by show l.length ≤ Rows.uptoBulk (DataW.slice _ _); omega, ?_⟩
    simp only [RV]
    refine ⟨some a, cap, by rw [h1], ?_⟩
    rcases Nat.eq_zero_or_pos len with h0 | hpos
    · refine .inl ⟨by omega, ?_, fun e => by cases e⟩
      rw [List.eq_nil_of_length_eq_zero (by omega : l.length = 0)]
      rfl
    · have hus : 0 < us.length := by rw [h3]; exact Nat.mul_pos hpos hc0
      have h40 := h4 0 hus
      rw [List.getElem?_eq_getElem hus] at h40
      obtain ⟨hs, hbk⟩ := cell_spot h40
      simp only [Addr.add, if_true] at hs hbk
      obtain ⟨blk, off, spot⟩ := a
      simp only at hs hbk
      subst hs
      refine .inr ⟨by omega, blk, off, us, rfl, hbk, ?_, h5⟩
      intro i hi
      rw [← h4 i hi]
      congr 1
      simp only [Addr.add]
      split
      · subst_vars; rfl
      · rfl
theorem c3 : Tryz.prog.cellsOf 3 = 1 := by kernel_rfl
theorem c9 : Tryz.prog.cellsOf 9 = 1 := by kernel_rfl
def i64s (l : List Int) : List AV := l.map fun x => .sc (.int .i64 x)
theorem fm_int (l : List Int) : (l.flatMap fun x => [AV.sc (.int .i64 x)]) = i64s l := by
  induction l with
  | nil => rfl
  | cons x l ih => simp only [List.flatMap_cons, ih]; rfl
theorem fm_str (l : List ByteArray) : (l.flatMap fun x => [AV.sc (.string x)]) = strs l := by
  induction l with
  | nil => rfl
  | cons x l ih => simp only [List.flatMap_cons, ih]; rfl
theorem RVs_sc {Z : Nat → Prop} {v : Value} (h : plain v = true) : RVs Z W [.sc v] noMap [v] := by
  simp only [RVs, RV]
  exact ⟨v, [], rfl, rfl, ⟨rfl, h⟩, rfl⟩
theorem open_S {fuel : Nat} {cs : List Value} {x : DataW H × List MemPlace} (h : DataW.trod en Tryz.prog W 0 (fun _ => true) true fuel 9 cs = some x) (hb : Rows.uptoBulk x.1 ≤ 1048576) : ∃ s : ByteArray, cs = [.string s] ∧ s.size ≤ 1048576 := by
  obtain ⟨z, rfl, rfl, _⟩ := DataW.trod_string Tryz.underlying9 h
  refine ⟨z, rfl, ?_⟩
  simp only [Rows.uptoBulk, Array.length_toList] at hb
  have e : z.data.size = z.size := rfl
  omega
theorem open_I {fuel : Nat} {cs : List Value} {x : DataW H × List MemPlace} (h : DataW.trod en Tryz.prog W 0 (fun _ => true) true fuel 35 cs = some x) (hb : Rows.uptoBulk x.1 ≤ 1048576) :
    ∃ (l : List Int) (v : Value), cs = [v] ∧ (∀ y ∈ l, -9223372036854775808 ≤ y ∧ y ≤ 9223372036854775807) ∧ l.length ≤ 1048576 ∧ RV (Old W) W (.psl (i64s l) l.length) noMap v := by
  obtain ⟨l, v, h1, h2, h3, h4⟩ := open_psl (α := Int) (E := fun x => [.sc (.int .i64 x)]) (Q := fun y => -9223372036854775808 ≤ y ∧ y ≤ 9223372036854775807) Tryz.underlying35 c3 (by omega) (fun _ => rfl) h (fun n y _ _ cs' hy => by
    obtain ⟨z, rfl, rfl, hw⟩ := DataW.trod_int Tryz.underlying3 hy
    exact ⟨z, bounds_i64 hw, RVs_sc rfl⟩)
  rw [fm_int] at h4
  exact ⟨l, v, h1, h2, by omega, h4⟩
theorem open_Ss {fuel : Nat} {cs : List Value} {x : DataW H × List MemPlace} (h : DataW.trod en Tryz.prog W 0 (fun _ => true) true fuel 22 cs = some x) (hb : Rows.uptoBulk x.1 ≤ 1048576) :
    ∃ (l : List ByteArray) (v : Value), cs = [v] ∧ (∀ y ∈ l, y.size ≤ 1048576) ∧ l.length ≤ 1048576 ∧ RV (Old W) W (.psl (strs l) l.length) noMap v := by
  obtain ⟨l, v, h1, h2, h3, h4⟩ := open_psl (α := ByteArray) (E := fun x => [.sc (.string x)]) (Q := fun y => y.size ≤ 1048576) Tryz.underlying22 c9 (by omega) (fun _ => rfl) h (fun n y _ hyb cs' hy => by
    obtain ⟨z, rfl, rfl, hw⟩ := DataW.trod_string Tryz.underlying9 hy
    refine ⟨z, ?_, RVs_sc rfl⟩
    have := hyb _ hb
    simp only [Rows.uptoBulk, Array.length_toList] at this
    have e : z.data.size = z.size := rfl
    omega)
  rw [fm_str] at h4
  exact ⟨l, v, h1, h2, by omega, h4⟩
end
end Go.Proofs.Bv
