/-
  A part of the proof of KindsBackUptoCardSaid: BkOpen.
  Conditions: those that each part names.
-/
import Derived.Test.YtegdndonafbcdaaGreatDoorKb25
import Derived.Test.YtegdndonafbcdaaGreatDoorRows
import Derived.ChangeArms
import Derived.ChangeShapes
import Derived.OpenShut
import Derived.DataReads
set_option linter.unusedSimpArgs false
set_option linter.unusedVariables false
namespace Go.Proofs.Bv
open Go Go.Proofs.YtegdndonafbcdaaGreatDoor
section
variable {H : Type} {en : TypeId × Value → H} {P : Program} {W : World}
def Old (W : World) (r : Nat) : Prop := r < W.heap.size
theorem bulk_one {H : Type} (d : DataW H) : 1 ≤ Rows.uptoBulk d := by
  cases d with
  | lit l => cases l <;> simp [Rows.uptoBulk]
  | nil => simp [Rows.uptoBulk]
  | ptr d => simp [Rows.uptoBulk]
  | slice elems spare => simp [Rows.uptoBulk]
  | agg parts => simp [Rows.uptoBulk]
  | iface t d => simp [Rows.uptoBulk]
  | map entries => simp [Rows.uptoBulk]
  | held h => simp [Rows.uptoBulk]
theorem bulk_part {H : Type} {d : DataW H} {l : List (DataW H)} (h : d ∈ l) : Rows.uptoBulk d ≤ Rows.uptoBulkAll l := by
  induction l with
  | nil => cases h
  | cons x r ih =>
    simp only [Rows.uptoBulkAll]
    rcases List.mem_cons.1 h with rfl | h
    · omega
    · have := ih h; omega
theorem bulk_len {H : Type} (l : List (DataW H)) : l.length ≤ Rows.uptoBulkAll l := by
  induction l with
  | nil => simp [Rows.uptoBulkAll]
  | cons x r ih => have := bulk_one x; simp only [Rows.uptoBulkAll, List.length_cons]; omega
theorem cell_spot {a : Addr} {v : Value} (h : W.cell? a = some v) : a.spot = none ∧ a.block < W.heap.size := by
  unfold World.cell? at h
  split at h
  · rename_i c e z hb
    split at h
    · cases h
    · rename_i hs
      refine ⟨by simpa using hs, ?_⟩
      exact (Array.getElem?_eq_some_iff.1 hb).1
  · cases h
theorem rows_of {α : Type} {E : α → List AV} {Q : α → Prop} {a : Addr} {c e n len : Nat} {elems : List (DataW H × List MemPlace)} (hlen : elems.length = len)
    (hel : ∀ i, i < len → (W.cells? 0 (a.add (i * c)) c).bind (DataW.trod en P W 0 (fun _ => true) true n e) = elems[i]?)
    (hone : ∀ y ∈ elems, ∀ cs', DataW.trod en P W 0 (fun _ => true) true n e cs' = some y → ∃ v : α, Q v ∧ RVs (Old W) W (E v) noMap cs') :
    ∀ k, k ≤ len → ∃ (l : List α) (us : List Value), l.length = k ∧ (∀ v ∈ l, Q v) ∧ us.length = k * c ∧ (∀ i, i < us.length → W.cell? (a.add i) = us[i]?) ∧ RVs (Old W) W (l.flatMap E) noMap us := by
  intro k
  induction k with
  | zero => exact fun _ => ⟨[], [], rfl, by simp, by simp, by simp, by simp [RVs]⟩
  | succ k ih =>
    intro hk
    obtain ⟨l, us, h1, h2, h3, h4, h5⟩ := ih (by omega)
    have hx := hel k (by omega)
    rw [List.getElem?_eq_getElem (by omega)] at hx
    obtain ⟨cs', h6, h7⟩ := Option.bind_eq_some_iff.1 hx
    obtain ⟨v, hv, hr⟩ := hone _ (List.getElem_mem _) cs' h7
    obtain ⟨_, hl, hc⟩ := World.cells?_some h6
    refine ⟨l ++ [v], us ++ cs', by simp [h1], ?_, ?_, ?_, ?_⟩
    · intro x hx
      rcases List.mem_append.1 hx with hx | hx
      · exact h2 x hx
      · rw [List.mem_singleton.1 hx]; exact hv
    · rw [List.length_append, h3, hl, Nat.succ_mul]
    · intro i hi
      rw [List.length_append] at hi
      by_cases hlt : i < us.length
      · rw [List.getElem?_append_left hlt]
        exact h4 i hlt
      · rw [List.getElem?_append_right (by omega)]
        have := hc (i - us.length) (by omega)
        rw [← this]
        congr 1
        have e : (a.add (k * c)).add (i - us.length) = a.add (k * c + (i - us.length)) := by
          simp only [Addr.add]
          repeat' split
          all_goals first | rfl | omega | (simp_all; done) | (simp_all; omega)
        rw [e, ← h3]
        congr 1
        omega
    · rw [List.flatMap_append]
      simp only [List.flatMap_cons, List.flatMap_nil, List.append_nil]
      exact RVs_append h5 hr
theorem open_psl {α : Type} {E : α → List AV} {Q : α → Prop} {c t e fuel : Nat} {cs : List Value} {x : DataW H × List MemPlace} (ht : P.underlying t = some (.slice e)) (hc : P.cellsOf e = c) (hc0 : 0 < c) (hE : ∀ v, (E v).length = c)
    (h : DataW.trod en P W 0 (fun _ => true) true fuel t cs = some x)
    (hone : ∀ n y, n < fuel → (∀ b, Rows.uptoBulk x.1 ≤ b → Rows.uptoBulk y.1 ≤ b) → ∀ cs', DataW.trod en P W 0 (fun _ => true) true n e cs' = some y → ∃ v : α, Q v ∧ RVs (Old W) W (E v) noMap cs') :
    ∃ (l : List α) (v : Value), cs = [v] ∧ (∀ y ∈ l, Q y) ∧ l.length ≤ Rows.uptoBulk x.1 ∧ RV (Old W) W (.psl (l.flatMap E) l.length) noMap v := by
  rcases DataW.trod_slice ht h with ⟨rfl, rfl⟩ | ⟨a, len, cap, elems, rest, n, rfl, rfl, rfl, _, hle, _, hlen, hel, _, _⟩
  · exact ⟨[], _, rfl, by simp, by simp, by simp only [RV, List.flatMap_nil]; exact ⟨none, 0, rfl, .inl ⟨rfl, trivial, fun _ => rfl⟩⟩⟩
  · rw [hc] at hel
    have hb : elems.length ≤ Rows.uptoBulk (DataW.slice (elems.map (·.1)) (rest.map (·.1))) := by
      have := bulk_len (elems.map (·.1))
      simp only [Rows.uptoBulk]
      rw [List.length_map] at this
      omega
    obtain ⟨l, us, h1, h2, h3, h4, h5⟩ := rows_of (Q := Q) (E := E) hlen hel (fun y hy cs' hy' => hone n y (by omega) (fun b hb => by
      have := bulk_part (List.mem_map.2 ⟨y, hy, rfl⟩ : y.1 ∈ elems.map (·.1))
      simp only [Rows.uptoBulk] at hb
      omega) cs' hy') len (Nat.le_refl _)
    refine ⟨l, _, rfl, h2, by show l.length ≤ Rows.uptoBulk (DataW.slice _ _); omega, ?_⟩
    simp only [RV]
    refine ⟨some a, cap, by rw [h1], ?_⟩
    rcases Nat.eq_zero_or_pos len with h0 | hpos
    · refine .inl ⟨by omega, ?_, fun e => by cases e⟩
      rw [List.eq_nil_of_length_eq_zero (by omega : l.length = 0)]
      rfl
    · have hus : 0 < us.length := by rw [h3]; exact Nat.mul_pos hpos hc0
      have h40 := h4 0 hus
      rw [List.getElem?_eq_getElem hus] at h40
      obtain ⟨hs, hbk⟩ := cell_spot h40
      simp only [Addr.add, if_true] at hs hbk
      obtain ⟨blk, off, spot⟩ := a
      simp only at hs hbk
      subst hs
      refine .inr ⟨by omega, blk, off, us, rfl, hbk, ?_, h5⟩
      intro i hi
      rw [← h4 i hi]
      congr 1
      simp only [Addr.add]
      split
      · subst_vars; rfl
      · rfl
theorem c28 : Tryz.prog.cellsOf 28 = 7 := by kernel_rfl
theorem c24 : Tryz.prog.cellsOf 24 = 3 := by kernel_rfl
theorem c3 : Tryz.prog.cellsOf 3 = 1 := by kernel_rfl
theorem c4 : Tryz.prog.cellsOf 4 = 1 := by kernel_rfl
theorem c9 : Tryz.prog.cellsOf 9 = 1 := by kernel_rfl
theorem c22 : Tryz.prog.cellsOf 22 = 1 := by kernel_rfl
theorem c25 : Tryz.prog.cellsOf 25 = 1 := by kernel_rfl
theorem c26 : Tryz.prog.cellsOf 26 = 1 := by kernel_rfl
theorem c102 : Tryz.prog.cellsOf 102 = 1 := by kernel_rfl
theorem fm_u32 (l : List Int) : (l.flatMap fun x => [AV.sc (.int .u32 x)]) = u32s l := by
  induction l with
  | nil => rfl
  | cons x l ih => simp only [List.flatMap_cons, ih]; rfl
theorem fm_str (l : List ByteArray) : (l.flatMap fun x => [AV.sc (.string x)]) = strs l := by
  induction l with
  | nil => rfl
  | cons x l ih => simp only [List.flatMap_cons, ih]; rfl
theorem fm_enc (l : List JV) : l.flatMap enc = encs l := by
  induction l with
  | nil => rfl
  | cons x l ih => simp only [List.flatMap_cons, ih, encs]
theorem Fits_of {l : List JV} (h : ∀ v ∈ l, Fit v) : Fits l := by
  induction l with
  | nil => trivial
  | cons x l ih => exact ⟨h x (by simp), ih fun v hv => h v (by simp [hv])⟩
theorem RVs_sc {Z : Nat → Prop} {v : Value} (h : plain v = true) : RVs Z W [.sc v] noMap [v] := by
  simp only [RVs, RV]
  exact ⟨v, [], rfl, rfl, ⟨rfl, h⟩, rfl⟩
theorem RVs_psl {Z : Nat → Prop} {cs : List AV} {len : Nat} {v : Value} (h : RV Z W (.psl cs len) noMap v) : RVs Z W [.psl cs len] noMap [v] := by
  simp only [RVs]
  exact ⟨v, [], rfl, rfl, h, rfl⟩
theorem open_u32s {fuel : Nat} {cs : List Value} {x : DataW H × List MemPlace} (h : DataW.trod en Tryz.prog W 0 (fun _ => true) true fuel 22 cs = some x) :
    ∃ (l : List Int) (v : Value), cs = [v] ∧ (∀ y ∈ l, 0 ≤ y ∧ y ≤ 4294967295) ∧ l.length ≤ Rows.uptoBulk x.1 ∧ RV (Old W) W (.psl (u32s l) l.length) noMap v := by
  obtain ⟨l, v, h1, h2, h3, h4⟩ := open_psl (α := Int) (E := fun x => [.sc (.int .u32 x)]) (Q := fun y => 0 ≤ y ∧ y ≤ 4294967295) Tryz.underlying22 c102 (by omega) (fun _ => rfl) h (fun n y _ _ cs' hy => by
    obtain ⟨z, rfl, rfl, hw⟩ := DataW.trod_int Tryz.underlying102 hy
    exact ⟨z, bounds_u32 hw, RVs_sc rfl⟩)
  rw [fm_u32] at h4
  exact ⟨l, v, h1, h2, h3, h4⟩
theorem open_strs {fuel : Nat} {cs : List Value} {x : DataW H × List MemPlace} (h : DataW.trod en Tryz.prog W 0 (fun _ => true) true fuel 26 cs = some x) (hb : Rows.uptoBulk x.1 ≤ 1048576) :
    ∃ (l : List ByteArray) (v : Value), cs = [v] ∧ (∀ y ∈ l, y.size ≤ 1048576) ∧ l.length ≤ Rows.uptoBulk x.1 ∧ RV (Old W) W (.psl (strs l) l.length) noMap v := by
  obtain ⟨l, v, h1, h2, h3, h4⟩ := open_psl (α := ByteArray) (E := fun x => [.sc (.string x)]) (Q := fun y => y.size ≤ 1048576) Tryz.underlying26 c9 (by omega) (fun _ => rfl) h (fun n y _ hyb cs' hy => by
    obtain ⟨z, rfl, rfl, hw⟩ := DataW.trod_string Tryz.underlying9 hy
    refine ⟨z, ?_, RVs_sc rfl⟩
    have := hyb _ hb
    simp only [Rows.uptoBulk, Array.length_toList] at this
    have e : z.data.size = z.size := rfl
    omega)
  rw [fm_str] at h4
  exact ⟨l, v, h1, h2, h3, h4⟩
theorem bulk3 {H : Type} {x0 x1 x2 : DataW H} : Rows.uptoBulk (.agg [x0, x1, x2]) = Rows.uptoBulk x0 + Rows.uptoBulk x1 + Rows.uptoBulk x2 + 1 := by
  simp only [Rows.uptoBulk, Rows.uptoBulkAll]
  omega
theorem bulk5 {H : Type} {x0 x1 x2 x3 x4 : DataW H} : Rows.uptoBulk (.agg [x0, x1, x2, x3, x4]) = Rows.uptoBulk x0 + Rows.uptoBulk x1 + Rows.uptoBulk x2 + Rows.uptoBulk x3 + Rows.uptoBulk x4 + 1 := by
  simp only [Rows.uptoBulk, Rows.uptoBulkAll]
  omega
set_option maxRecDepth 100000 in
theorem open_JV : ∀ (fuel : Nat) (cs : List Value) (x : DataW H × List MemPlace), DataW.trod en Tryz.prog W 0 (fun _ => true) true fuel 28 cs = some x → Rows.uptoBulk x.1 ≤ 1048576 → ∃ v : JV, Fit v ∧ RVs (Old W) W (enc v) noMap cs := by
  intro fuel
  induction fuel using Nat.strongRecOn with
  | ind fuel ih =>
    intro cs x h hb
    obtain ⟨xs, n, rfl, rfl, hl, hlen, hf⟩ := DataW.trod_struct Tryz.underlying28 h
    rw [c28] at hl
    match xs, hlen, cs, hl with
    | [x0, x1, x2, x3, x4], _, [v0, v1, v2, v3, v4, v5, v6], _ =>
      have f0 := hf 0 _ rfl
      have f1 := hf 1 _ rfl
      have f2 := hf 2 _ rfl
      have f3 := hf 3 _ rfl
      have f4 := hf 4 _ rfl
      simp only [c3, c24, c9, c25, c26, List.drop_zero, List.drop_succ_cons, List.take_succ_cons, List.take_zero, List.getElem?_cons_zero, List.getElem?_cons_succ] at f0 f1 f2 f3 f4
      simp only [List.map_cons, List.map_nil] at hb
      rw [bulk5] at hb
      obtain ⟨k, e0, rfl, w0⟩ := DataW.trod_int Tryz.underlying3 f0
      obtain ⟨t, e2, rfl, w2⟩ := DataW.trod_string Tryz.underlying9 f2
      obtain ⟨ks, u4, e4, q4, l4, r4⟩ := open_strs f4 (by omega)
      obtain ⟨l, u3, e3, q3, l3, r3⟩ := open_psl (α := JV) (E := enc) (Q := Fit) Tryz.underlying25 c28 (by omega) enc_len f3 (fun m y hm hyb cs' hy => ih m (by omega) cs' y hy (hyb _ (by omega)))
      obtain ⟨ys, m, rfl, rfl, hl1, hlen1, hf1⟩ := DataW.trod_struct Tryz.underlying24 f1
      match ys, hlen1 with
      | [y0, y1, y2], _ =>
        have g0 := hf1 0 _ rfl
        have g1 := hf1 1 _ rfl
        have g2 := hf1 2 _ rfl
        simp only [c3, c4, c22, List.drop_zero, List.drop_succ_cons, List.take_succ_cons, List.take_zero, List.getElem?_cons_zero, List.getElem?_cons_succ] at g0 g1 g2
        simp only [List.map_cons, List.map_nil] at hb
        rw [bulk3] at hb
        obtain ⟨ng, d0, rfl⟩ := DataW.trod_bool Tryz.underlying4 g0
        obtain ⟨cf, u1, d1, q1, l1, r1⟩ := open_u32s g1
        obtain ⟨ex, d2, rfl, w3⟩ := DataW.trod_int Tryz.underlying3 g2
        cases e0; cases e2; cases e3; cases e4; cases d0; cases d1; cases d2
        rw [fm_enc] at r3
        have ht : t.size ≤ 1048576 := by
          have e : t.data.size = t.size := rfl
          simp only [Rows.uptoBulk, Array.length_toList] at hb
          omega
        refine ⟨.mk k ng cf ex t l ks, ⟨⟨bounds_i64 w0, bounds_i64 w3, q1, by omega, by omega, by omega, by omega, fun s hs => by have := q4 s hs; omega⟩, Fits_of q3⟩, ?_⟩
        simp only [enc]
        exact RVs_append (RVs_sc rfl) (RVs_append (RVs_sc rfl) (RVs_append (RVs_psl r1) (RVs_append (RVs_sc rfl) (RVs_append (RVs_sc rfl) (RVs_append (RVs_psl r3) (RVs_psl r4))))))
end
end Go.Proofs.Bv
