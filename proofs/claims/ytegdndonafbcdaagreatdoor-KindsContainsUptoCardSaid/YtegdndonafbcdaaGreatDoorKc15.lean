/-
  A part of the proof of KindsContainsUptoCardSaid: BkCLaw, BkCont2, BkLawC.
  Conditions: those that each part names.
-/
import Derived.Test.YtegdndonafbcdaaGreatDoorKc14
set_option linter.unusedSimpArgs false
set_option linter.unusedVariables false
namespace Go.Proofs.Bv
open Go
theorem index_infix : (s sub : List UInt8) → (0 ≤ Lib.index s sub ↔ sub <:+: s)
  | [], sub => by
    unfold Lib.index
    cases sub with
    | nil => simp
    | cons a t => simp
  | b :: l, sub => by
    have ih := index_infix l sub
    have hge := Lib.index_ge l sub
    unfold Lib.index
    split
    · rename_i h
      have hp := List.isPrefixOf_iff_prefix.1 h
      exact ⟨fun _ => hp.isInfix, fun _ => by omega⟩
    · rename_i h
      have hp : ¬ sub <+: b :: l := fun e => h (List.isPrefixOf_iff_prefix.2 e)
      rw [List.infix_cons_iff]
      split
      · rename_i h1
        have h1 : Lib.index l sub = -1 := by simpa using h1
        rw [h1] at ih
        constructor
        · intro e; omega
        · rintro (e | e)
          · exact absurd e hp
          · exact absurd (ih.2 e) (by omega)
      · rename_i h1
        have h1 : ¬ Lib.index l sub = -1 := by simpa using h1
        constructor
        · intro _; exact .inr (ih.1 (by omega))
        · intro _; omega
theorem has_iff {s t : List UInt8} : Lib.contains s t = true ↔ t <:+: s := by
  unfold Lib.contains
  rw [decide_eq_true_eq]
  exact index_infix s t
theorem bl_irr : (x : List UInt8) → Op.bytesLess x x = false
  | [] => rfl
  | a :: x => by simp [Op.bytesLess, bl_irr x, UInt8.lt_irrefl]
theorem bl_trans : (x y z : List UInt8) → Op.bytesLess x y = true → Op.bytesLess y z = true → Op.bytesLess x z = true
  | _, _, [], _, h => by simp [Op.bytesLess] at h
  | [], _, _ :: _, _, _ => rfl
  | _ :: _, [], _ :: _, h, _ => by simp [Op.bytesLess] at h
  | a :: x, b :: y, c :: z, h1, h2 => by
    simp only [Op.bytesLess, Bool.or_eq_true, Bool.and_eq_true, decide_eq_true_eq, beq_iff_eq] at h1 h2 ⊢
    rcases h1 with h1 | ⟨rfl, h1⟩
    · rcases h2 with h2 | ⟨rfl, _⟩
      · exact .inl (UInt8.lt_trans h1 h2)
      · exact .inl h1
    · rcases h2 with h2 | ⟨rfl, h2⟩
      · exact .inl h2
      · exact .inr ⟨rfl, bl_trans x y z h1 h2⟩
theorem bl_total : (x y : List UInt8) → Op.bytesLess x y = true ∨ x = y ∨ Op.bytesLess y x = true
  | [], [] => .inr (.inl rfl)
  | [], _ :: _ => .inl rfl
  | _ :: _, [] => .inr (.inr rfl)
  | a :: x, b :: y => by
    simp only [Op.bytesLess, Bool.or_eq_true, Bool.and_eq_true, decide_eq_true_eq, beq_iff_eq, List.cons.injEq]
    have ih := bl_total x y
    rcases Nat.lt_trichotomy a.toNat b.toNat with h | h | h
    · exact .inl (.inl h)
    · have e : a = b := UInt8.toNat_inj.1 h
      subst e
      rcases ih with ih | ih | ih
      · exact .inl (.inr ⟨rfl, ih⟩)
      · exact .inr (.inl ⟨rfl, ih⟩)
      · exact .inr (.inr (.inr ⟨rfl, ih⟩))
    · exact .inr (.inr (.inl h))
def bl (a b : ByteArray) : Prop := Op.bytesLess a.toList b.toList = true
theorem sle_not {k p : ByteArray} (h : sle k p = false) : bl p k := by
  unfold sle at h
  rw [Bool.or_eq_false_iff] at h
  rcases bl_total p.toList k.toList with e | e | e
  · exact e
  · rw [e] at h; simp at h
  · rw [h.1] at e; cases e
theorem riseAt_all : (p : ByteArray) → (r : List ByteArray) → riseAt p r = true → (∀ k ∈ r, bl p k) ∧ r.Pairwise bl
  | p, [], _ => ⟨by simp, .nil⟩
  | p, k :: r, h => by
    simp only [riseAt, Bool.and_eq_true, Bool.not_eq_true'] at h
    have hk := sle_not h.1
    obtain ⟨h1, h2⟩ := riseAt_all k r h.2
    refine ⟨fun z hz => ?_, .cons h1 h2⟩
    rcases List.mem_cons.1 hz with rfl | hz
    · exact hk
    · exact bl_trans _ _ _ hk (h1 z hz)
theorem rises_pw {l : List ByteArray} (h : rises l = true) : l.Pairwise bl := by
  cases l with
  | nil => exact .nil
  | cons p r =>
    obtain ⟨h1, h2⟩ := riseAt_all p r h
    exact .cons h1 h2
theorem tl_inj {s t : ByteArray} : ((s.toList == t.toList) = true) ↔ s = t := by
  rw [ByteArray.toList_eq, ByteArray.toList_eq, beq_iff_eq]
  constructor
  · intro h
    apply ByteArray.ext
    exact Array.toList_inj.1 h
  · rintro rfl; rfl
theorem idxS_at : (l : List ByteArray) → l.Pairwise bl → (i j : Nat) → (s : ByteArray) → l[i]? = some s → idxS l s j = ((i + j : Nat) : Int)
  | [], _, i, j, s, h => by simp at h
  | x :: r, hp, 0, j, s, h => by
    simp only [List.getElem?_cons_zero, Option.some.injEq] at h
    subst h
    simp [idxS]
  | x :: r, hp, i + 1, j, s, h => by
    simp only [List.getElem?_cons_succ] at h
    cases hp with
    | cons h1 h2 =>
      have hx := h1 s (List.mem_of_getElem? h)
      have hne : ¬ ((s.toList == x.toList) = true) := by
        rw [tl_inj]
        rintro rfl
        unfold bl at hx
        rw [bl_irr] at hx
        cases hx
      simp only [idxS, if_neg hne]
      rw [idxS_at r h2 i (j + 1) s h]
      omega
theorem idxS_get : (l : List ByteArray) → (s : ByteArray) → (j : Nat) → (j : Int) ≤ idxS l s j → l[(idxS l s j - j).toNat]? = some s
  | [], s, j, h => by simp only [idxS] at h; omega
  | x :: r, s, j, h => by
    simp only [idxS] at h ⊢
    split
    · rename_i h1
      have e := tl_inj.1 h1
      subst e
      simp
    · rename_i h1
      rw [if_neg h1] at h
      have hr := idxS_rng r s (j + 1)
      have h2 : ((j + 1 : Nat) : Int) ≤ idxS r s (j + 1) := by rcases hr with q | q <;> omega
      have ih := idxS_get r s (j + 1) h2
      rw [show (idxS r s (j + 1) - (j : Int)).toNat = (idxS r s (j + 1) - ((j + 1 : Nat) : Int)).toNat + 1 by omega, List.getElem?_cons_succ]
      exact ih
theorem cmpI_zero {a b : Int} : cmpI a b = 0 ↔ a = b := by
  unfold cmpI
  constructor
  · intro h
    split at h
    · omega
    · split at h <;> omega
  · rintro rfl
    simp
theorem sgn_mul (ng : Bool) (n k : Nat) : sgn ng (n * k) = sgn ng n * (k : Int) := by
  unfold sgn
  split
  · rw [Int.natCast_mul, Int.neg_mul]
  · rw [Int.natCast_mul]
theorem cmpD_zero {n1 : Bool} {a : Nat} {e1 : Int} {n2 : Bool} {b : Nat} {e2 : Int} (L : Int) (h1 : L ≤ e1) (h2 : L ≤ e2) : cmpD n1 a e1 n2 b e2 = 0 ↔ sgn n1 a * ((10 ^ (e1 - L).toNat : Nat) : Int) = sgn n2 b * ((10 ^ (e2 - L).toNat : Nat) : Int) := by
  unfold cmpD
  rw [cmpI_zero, sgn_mul, sgn_mul]
  have p1 : (e1 - L).toNat = (e1 - min e1 e2).toNat + (min e1 e2 - L).toNat := by omega
  have p2 : (e2 - L).toNat = (e2 - min e1 e2).toNat + (min e1 e2 - L).toNat := by omega
  rw [p1, p2, Nat.pow_add, Nat.pow_add, Int.natCast_mul, Int.natCast_mul, ← Int.mul_assoc, ← Int.mul_assoc]
  have hp : ((10 ^ (min e1 e2 - L).toNat : Nat) : Int) ≠ 0 := by
    have := Nat.pow_pos (n := (min e1 e2 - L).toNat) (show 0 < 10 by decide)
    omega
  exact ⟨fun h => by rw [h], fun h => Int.eq_of_mul_eq_mul_right hp h⟩
theorem eqLeaf_refl (a : JV) : eqLeaf a a = true := by
  unfold eqLeaf ordL
  have h1 : cmpI a.kind a.kind = 0 := cmpI_zero.2 rfl
  have h2 : cmpD a.neg (nv a.coef).toNat a.exp a.neg (nv a.coef).toNat a.exp = 0 := (cmpD_zero a.exp (Int.le_refl _) (Int.le_refl _)).2 rfl
  rw [h1, h2]
  simp
theorem eqLeaf_kind {a b : JV} (h : eqLeaf a b = true) : a.kind = b.kind ∧ (a.kind = 3 → cmpD a.neg (nv a.coef).toNat a.exp b.neg (nv b.coef).toNat b.exp = 0) := by
  unfold eqLeaf ordL at h
  rw [decide_eq_true_eq] at h
  split at h
  · rename_i h0; exact absurd h h0
  · rename_i h0
    have hk := cmpI_zero.1 (Decidable.not_not.1 h0)
    refine ⟨hk, fun h3 => ?_⟩
    rw [if_pos h3] at h
    exact h
theorem eqLeaf_trans {a b c : JV} (h1 : eqLeaf a b = true) (h2 : eqLeaf b c = true) : eqLeaf a c = true := by
  obtain ⟨k1, d1⟩ := eqLeaf_kind h1
  obtain ⟨k2, d2⟩ := eqLeaf_kind h2
  unfold eqLeaf ordL
  rw [decide_eq_true_eq, if_neg (by rw [Decidable.not_not]; exact cmpI_zero.2 (by omega))]
  split
  · rename_i h3
    have q1 := d1 h3
    have q2 := d2 (by omega)
    have L1 : min a.exp (min b.exp c.exp) ≤ a.exp := by omega
    have L2 : min a.exp (min b.exp c.exp) ≤ b.exp := by omega
    have L3 : min a.exp (min b.exp c.exp) ≤ c.exp := by omega
    rw [cmpD_zero _ L1 L2] at q1
    rw [cmpD_zero _ L2 L3] at q2
    rw [cmpD_zero _ L1 L3, q1, q2]
  · rfl
theorem like_refl (k : Int) : like k k = true := by simp [like]
theorem rises_of {v : JV} (h : own v = 0) : rises v.keys = true := by
  obtain ⟨k, ng, cf, ex, t, l, ks⟩ := v
  simp only [own] at h
  split at h
  · omega
  · split at h
    · omega
    · split at h
      · omega
      · split at h
        · omega
        · rename_i hu
          cases hq : rises ks
          · exact absurd (.inr (.inr hq)) hu
          · exact hq
theorem cont_refl : (a : JV) → Vd a → cont a a = true
  | .mk k g cf e t l s => fun va => by
    have ih : ∀ x ∈ l, cont x x = true := fun x hx => cont_refl x (va.part hx)
    have sa := own_said va.own
    have hr := rises_pw (rises_of va.own)
    simp only [cont, JV.kind, like_refl, JV.text, JV.list, JV.keys] at *
    rw [if_neg (by simp)]
    split
    · exact has_iff.2 (List.infix_refl _)
    · split
      · rw [List.all_eq_true]
        intro y hy
        rw [contAny_iff, List.any_eq_true]
        exact ⟨y, hy, ih y hy⟩
      · split
        · rename_i h6
          have hl := sa.2.2.2.1 h6
          rw [List.all_eq_true]
          rintro ⟨ky, y⟩ hz
          obtain ⟨i, hi, he⟩ := List.mem_iff_getElem.1 hz
          have hz' : (s.zip l)[i]? = some (ky, y) := by rw [List.getElem?_eq_getElem hi, he]
          rw [List.getElem?_zip_eq_some] at hz'
          have hidx := idxS_at s hr i 0 ky hz'.1
          simp only [hidx, Nat.add_zero, Int.toNat_natCast, contAt_at, hz'.2]
          rw [ih y (List.mem_of_getElem? hz'.2)]
          simp
        · exact eqLeaf_refl _
  termination_by v => v
  decreasing_by
    simp_wf
    have := List.sizeOf_lt_of_mem hx
    omega
theorem cont_mk (k1 : Int) (g1 : Bool) (c1 : List Int) (e1 : Int) (t1 : ByteArray) (l1 : List JV) (s1 : List ByteArray) (k2 : Int) (g2 : Bool) (c2 : List Int) (e2 : Int) (t2 : ByteArray) (l2 : List JV) (s2 : List ByteArray) :
    cont (.mk k1 g1 c1 e1 t1 l1 s1) (.mk k2 g2 c2 e2 t2 l2 s2) = if like k1 k2 = false then false else if k1 = 4 then Lib.contains t1.data.toList t2.data.toList else if k1 = 5 then l2.all (fun y => contAny l1 y)
      else if k1 = 6 then (s2.zip l2).all (fun p => decide (0 ≤ idxS s1 p.1 0) && contAt l1 (idxS s1 p.1 0).toNat p.2) else eqLeaf (.mk k1 g1 c1 e1 t1 [] s1) (.mk k2 g2 c2 e2 t2 l2 s2) := by
  rw [cont]
  rfl
theorem like_trans {a b c : Int} (h1 : like a b = true) (h2 : like b c = true) : like a c = true := by
  simp only [like, Bool.and_eq_true, decide_eq_true_eq, beq_iff_eq, decide_eq_decide] at h1 h2 ⊢
  omega
theorem cont_trans : (a : JV) → Vd a → (b c : JV) → Vd b → Vd c → cont a b = true → cont b c = true → cont a c = true
  | .mk k1 g1 c1 e1 t1 l1 s1 => fun va b c vb vc hab hbc => by
    have ih : ∀ x ∈ l1, ∀ y z, Vd y → Vd z → cont x y = true → cont y z = true → cont x z = true := fun x hx y z vy vz => cont_trans x (va.part hx) y z vy vz
    have sa := own_said va.own
    have pb : ∀ y ∈ b.list, Vd y := fun y hy => vb.part hy
    have pc : ∀ y ∈ c.list, Vd y := fun y hy => vc.part hy
    obtain ⟨k2, g2, c2, e2, t2, l2, s2⟩ := b
    obtain ⟨k3, g3, c3, e3, t3, l3, s3⟩ := c
    have sb := own_said vb.own
    have sc := own_said vc.own
    rw [cont_mk] at hab hbc ⊢
    simp only [JV.list] at pb pc
    by_cases lab : like k1 k2 = false
    · rw [if_pos lab] at hab
      cases hab
    · rw [if_neg lab] at hab
      by_cases lbc : like k2 k3 = false
      · rw [if_pos lbc] at hbc
        cases hbc
      · rw [if_neg lbc] at hbc
        have lab : like k1 k2 = true := by simpa using lab
        have lbc : like k2 k3 = true := by simpa using lbc
        rw [if_neg (by rw [like_trans lab lbc]; simp)]
        have m1 : max k1 2 = max k2 2 := by simp only [like, Bool.and_eq_true, decide_eq_true_eq] at lab; exact lab.1
        have m2 : max k2 2 = max k3 2 := by simp only [like, Bool.and_eq_true, decide_eq_true_eq] at lbc; exact lbc.1
        by_cases h4 : k1 = 4
        · rw [if_pos h4] at hab ⊢
          rw [if_pos (by omega)] at hbc
          exact has_iff.2 ((has_iff.1 hbc).trans (has_iff.1 hab))
        · rw [if_neg h4] at hab ⊢
          rw [if_neg (by omega)] at hbc
          by_cases h5 : k1 = 5
          · rw [if_pos h5] at hab ⊢
            rw [if_pos (by omega)] at hbc
            rw [List.all_eq_true] at hab hbc ⊢
            intro z hz
            have q := hbc z hz
            rw [contAny_iff, List.any_eq_true] at q
            obtain ⟨y, hy, hyz⟩ := q
            have q := hab y hy
            rw [contAny_iff, List.any_eq_true] at q
            obtain ⟨x, hx, hxy⟩ := q
            rw [contAny_iff, List.any_eq_true]
            exact ⟨x, hx, ih x hx y z (pb y hy) (pc z hz) hxy hyz⟩
          · rw [if_neg h5] at hab ⊢
            rw [if_neg (by omega)] at hbc
            by_cases h6 : k1 = 6
            · rw [if_pos h6] at hab ⊢
              rw [if_pos (by omega)] at hbc
              have nb := sb.2.2.2.1 (by omega)
              rw [List.all_eq_true] at hab hbc ⊢
              rintro ⟨kz, z⟩ hz
              have q := hbc _ hz
              simp only [Bool.and_eq_true, decide_eq_true_eq, contAt_at] at q
              obtain ⟨q1, q2⟩ := q
              have hk2 := idxS_get s2 kz 0 q1
              simp only [Int.natCast_zero, Int.sub_zero] at hk2
              have hr := idxS_rng s2 kz 0
              obtain ⟨y, hy⟩ : ∃ y, l2[(idxS s2 kz 0).toNat]? = some y := ⟨l2[(idxS s2 kz 0).toNat]'(by omega), List.getElem?_eq_getElem (by omega)⟩
              rw [hy] at q2
              simp only at q2
              have hzip : (kz, y) ∈ s2.zip l2 := List.mem_of_getElem? (i := (idxS s2 kz 0).toNat) (by rw [List.getElem?_zip_eq_some]; exact ⟨hk2, hy⟩)
              have w := hab _ hzip
              simp only [Bool.and_eq_true, decide_eq_true_eq, contAt_at] at w
              obtain ⟨w1, w2⟩ := w
              simp only [Bool.and_eq_true, decide_eq_true_eq, contAt_at]
              refine ⟨w1, ?_⟩
              cases hx : l1[(idxS s1 kz 0).toNat]? with
              | none => rw [hx] at w2; cases w2
              | some x =>
                rw [hx] at w2
                exact ih x (List.mem_of_getElem? hx) y z (pb y (List.mem_of_getElem? hy)) (pc z (List.of_mem_zip hz).2) w2 q2
            · rw [if_neg h6] at hab ⊢
              rw [if_neg (by omega)] at hbc
              have e1 : eqLeaf (.mk k1 g1 c1 e1 t1 [] s1) (.mk k2 g2 c2 e2 t2 [] s2) = true := hab
              have e2 : eqLeaf (.mk k2 g2 c2 e2 t2 [] s2) (.mk k3 g3 c3 e3 t3 l3 s3) = true := hbc
              exact eqLeaf_trans e1 e2
  termination_by v => v
  decreasing_by
    simp_wf
    have := List.sizeOf_lt_of_mem hx
    omega
end Go.Proofs.Bv
namespace Go.Proofs.Bv
open Go
theorem wk130 (G : Nat → Option (List AV)) (x y : JV) (c : Bool) (hc : Pc (Cf G) 74 [.agg (enc x), .agg (enc y)] (.sc (.bool c))) {m : Nat} {h : Heap} {n : Nat} (hm : h m = some (.cells (enc y) 0 false)) (hmn : m < n) (K : AV → Heap → Nat → Prop)
    (hK : ∀ h' n', n ≤ n' → (∀ q, q < n → h' q = h q) → K (.sc (.bool c)) h' n') : Wk (Cf G) (.fn (.func 130) [.ptr m 0]) [.agg (enc x)] h n K := by
  rw [Wk_box rfl]
  refine Gf.go ?_
  have hne : ¬ m = n := by omega
  obtain ⟨k1, g1, c1, e1, t1, l1, s1⟩ := x
  obtain ⟨k2, g2, c2, e2, t2, l2, s2⟩ := y
  show Gf (Cf G) 130 [.agg (enc (.mk k1 g1 c1 e1 t1 l1 s1)), .ptr m 0] h n K
  simp only [enc] at hc hm ⊢
  refine Gf_enter (C := Cf G) Tryz.func130 rfl ok130 (Nat.le_of_ble_eq_true rfl) ?_
  simp only [Tryz.f130, Option.getD_some]
  refine wC1 (wa hm hne) (wa hc trivial) ?_
  exact hK _ _ (Nat.le_succ n) (fun q hq => upd_ne _ _ (by omega))
theorem wk129 (G : Nat → Option (List AV)) (a y : JV) (ha : a.list.length ≤ 140737488355328) (hc : ∀ x ∈ a.list, Pc (Cf G) 74 [.agg (enc x), .agg (enc y)] (.sc (.bool (cont x y)))) {m : Nat} {h : Heap} {n : Nat} (hm : h m = some (.cells (enc a) 0 false)) (hmn : m < n) (K : AV → Heap → Nat → Prop)
    (hK : ∀ h' n', n ≤ n' → (∀ q, q < n → h' q = h q) → K (.sc (.bool (!contAny a.list y))) h' n') : Wk (Cf G) (.fn (.func 129) [.ptr m 0]) [.agg (enc y)] h n K := by
  rw [Wk_box rfl]
  refine Gf.go ?_
  have hne : ¬ m = n := by omega
  obtain ⟨k1, g1, c1, e1, t1, l1, s1⟩ := a
  simp only [JV.list] at ha hc hK
  have hy : ∃ k2 g2 c2 e2 t2 l2 s2, y = .mk k2 g2 c2 e2 t2 l2 s2 := by obtain ⟨k2, g2, c2, e2, t2, l2, s2⟩ := y; exact ⟨_, _, _, _, _, _, _, rfl⟩
  show Gf (Cf G) 129 [.agg (enc y), .ptr m 0] h n K
  simp only [enc] at hm
  generalize hE : enc y = E at *
  have hEl : E.length = 7 := by rw [← hE]; exact enc_len y
  have hEo : E.all AV.one = true := by
    obtain ⟨k2, g2, c2, e2, t2, l2, s2, rfl⟩ := hy
    rw [← hE]
    rfl
  refine Gf_enter (C := Cf G) Tryz.func129 rfl ok129 (Nat.le_of_ble_eq_true rfl) ?_
  simp only [Tryz.f129, Option.getD_some]
  refine wB1 (wa hm (wa hne hEo)) ?_
  refine st_walk rfl rfl rfl (by simp only [vop, val, argsT, upd_ap, Nat.reduceEqDiff, if_true, if_false, ite_true, ite_false, reduceIte, loadAt, loadA, AV.cells, AV.one, List.all_cons, List.all_nil, ofV, ofCell, plain, List.getElem?_cons_zero, List.getElem?_cons_succ, List.getElem?_toArray, Option.getD_some, Bool.not_true, Bool.not_false, Bool.false_eq_true, Bool.and_true, Bool.true_and, Bool.and_self, Nat.zero_add, Option.map_some, Option.bind_some, List.map_cons, List.map_nil, ev_add, ev_sub, ev_mul, ev_lss, ev_leq, ev_gtr, ev_geq, ev_eql, ev_neq, ev_seql, ev_sneq, ev_sleq, ev_slss, ev_not, ev_min, ev_max, asNat_nat, asNat_zero, asNat_one, asNat_two, asNat_three, vb_len, List.length_cons, List.length_nil, Nat.reduceAdd, Nat.reduceLeDiff, Nat.reduceMul, Int.reduceEq, Int.reduceLT, Int.reduceLE, Int.reduceNeg, Int.reduceAdd, Int.reduceSub, Nat.reduceLT, decide_true, decide_false, not_true_eq_false, not_false_eq_true, and_self, and_true, true_and, storeA, List.take_zero, List.drop_succ_cons, List.drop_zero, List.nil_append, List.append_nil, List.take_succ_cons, List.cons_append, cut_cons, cut_zero, cut_skip, tAt, hHide, hAt, upsAt, List.contains_cons, List.contains_nil, Nat.reduceBEq, Bool.or_true, Bool.true_or, Bool.or_false, Bool.false_or, Bool.or_self, Bool.and_true, Bool.true_and, Bool.and_false, Bool.false_and, beq_self_eq_true (α := Nat), Option.some_beq_some, Option.none_beq_some, Option.some_beq_none, Bool.false_eq_true, List.all_nil, touch, touchB, Nat.sub_self, List.range'_zero, Nat.add_sub_cancel_left, List.range'_one]; with_reducible rfl) rfl rfl ?_
  refine gf88 G l1 ha 130 n (fun d h' n' => n + 1 ≤ n' ∧ (∀ q, q < n + 1 → h' q = upd h n (some (.cells E 0 false)) q) ∧ ∀ x ∈ d, cont x y = false) _ ?_ ?_ ⟨Nat.le_refl _, fun _ _ => rfl, fun _ hx => by simp at hx⟩
  · intro d x r h2 n2 K2 hl ⟨i1, i2, i3⟩ hF hT
    have hx : x ∈ l1 := by rw [hl]; simp
    refine wk130 G x y (cont x y) (hE ▸ hc x hx) (m := n) (by rw [i2 n (by omega), upd_same, hE]) (by omega) _ ?_
    intro h3 n3 hn3 hf3
    have hfr : ∀ q, q < n + 1 → h3 q = upd h n (some (.cells E 0 false)) q := fun q hq => by rw [hf3 q (by omega), i2 q hq]
    cases hcx : cont x y with
    | false =>
      refine hF h3 n3 hn3 ⟨by omega, hfr, fun z hz => ?_⟩
      rcases List.mem_append.1 hz with hz | hz
      · exact i3 z hz
      · rw [List.mem_singleton.1 hz]; exact hcx
    | true =>
      have hany : contAny l1 y = true := by rw [contAny_iff, List.any_eq_true]; exact ⟨x, hx, hcx⟩
      refine hT h3 n3 hn3 (st_gn (by omega) rfl ?_)
      rw [hany] at hK
      refine wB1 trivial ?_
      refine hK h3 n3 (by omega) (fun q hq => ?_)
      rw [hfr q (by omega), upd_ne _ _ (by omega)]
  · intro h2 n2 ⟨i1, i2, i3⟩
    have hany : contAny l1 y = false := by
      rw [contAny_iff, List.any_eq_false]
      exact fun x hx => by rw [i3 x hx]; simp
    refine st_gn (by omega) rfl ?_
    rw [hany] at hK
    refine wB1 trivial ?_
    refine hK h2 n2 (by omega) (fun q hq => ?_)
    rw [i2 q (by omega), upd_ne _ _ (by omega)]
theorem lim_of {v : JV} (h : Fit v) : Limbs v.coef := by
  obtain ⟨k, ng, cf, ex, t, l, ks⟩ := v
  exact h.1.coef
theorem vd_len {v : JV} (h : Vd v) : v.list.length ≤ 4096 := by
  obtain ⟨k, ng, cf, ex, t, l, ks⟩ := v
  exact (own_said h.own).2.1
set_option maxHeartbeats 8000000 in
set_option maxRecDepth 100000 in
theorem pc74 (G : Nat → Option (List AV)) : (a : JV) → Vd a → Fit a → (b : JV) → Vd b → Fit b → Pc (Cf G) 74 [.agg (enc a), .agg (enc b)] (.sc (.bool (cont a b)))
  | .mk k1 g1 c1 e1 t1 l1 s1 => fun va fa b vb fb => by
    have ih : ∀ x ∈ l1, ∀ y, Vd y → Fit y → Pc (Cf G) 74 [.agg (enc x), .agg (enc y)] (.sc (.bool (cont x y))) := fun x hx y vy fy => pc74 G x (va.part hx) (Fits_mem fa.2 x hx) y vy fy
    have hlk := pc73 G (.mk k1 g1 c1 e1 t1 l1 s1) b
    have sa := own_said va.own
    have hla := vd_len va
    have hlb := vd_len vb
    have hpb : ∀ y ∈ b.list, Vd y := fun y hy => vb.part hy
    obtain ⟨k2, g2, c2, e2, t2, l2, s2⟩ := b
    have sb := own_said vb.own
    simp only [JV.kind] at hlk
    simp only [JV.list] at hla hlb hpb
    by_cases hl : like k1 k2 = false
    · rw [show cont (.mk k1 g1 c1 e1 t1 l1 s1) (.mk k2 g2 c2 e2 t2 l2 s2) = false by simp [cont, JV.kind, hl]]
      rw [hl] at hlk
      simp only [enc] at hlk ⊢
      refine Pc_of (Gf_enter (C := Cf G) Tryz.func74 rfl ok74 (Nat.le_of_ble_eq_true rfl) ?_)
      simp only [Tryz.f74, Option.getD_some]
      refine wC1 trivial (wa hlk trivial) ?_
      simp only [one1, frz_s, Option.map_some]
    · have hl' : like k1 k2 = true := by simpa using hl
      rw [hl'] at hlk
      by_cases k4 : k1 = 4
      · subst k4
        rw [show cont (.mk 4 g1 c1 e1 t1 l1 s1) (.mk k2 g2 c2 e2 t2 l2 s2) = Lib.contains t1.data.toList t2.data.toList by simp [cont, JV.kind, JV.text, hl']]
        have ht := letters_size sa.2.2.2.2.1
        have o1 : orcContains [.sc (.string t1), .sc (.string t2)] = some (.sc (.bool (Lib.contains t1.data.toList t2.data.toList))) := by
          simp only [orcContains]
          rw [if_pos (by omega)]
        simp only [enc] at hlk ⊢
        refine Pc_of (Gf_enter (C := Cf G) Tryz.func74 rfl ok74 (Nat.le_of_ble_eq_true rfl) ?_)
        simp only [Tryz.f74, Option.getD_some]
        refine wC1 o1 (wa hlk trivial) ?_
        simp only [one1, frz_s, Option.map_some]
      · by_cases k5 : k1 = 5
        · subst k5
          rw [show cont (.mk 5 g1 c1 e1 t1 l1 s1) (.mk k2 g2 c2 e2 t2 l2 s2) = l2.all (fun y => contAny l1 y) by simp [cont, JV.kind, JV.list, hl']]
          simp only [enc] at hlk ⊢
          refine Pc_of (Gf_enter (C := Cf G) Tryz.func74 rfl ok74 (Nat.le_of_ble_eq_true rfl) ?_)
          simp only [Tryz.f74, Option.getD_some]
          refine wC1 trivial (wa hlk trivial) ?_
          refine k_w rfl rfl ?_
          refine gf88 G l2 (by omega) 129 0 (fun d h' n' => 2 ≤ n' ∧ h' 0 = some (.cells (enc (.mk 5 g1 c1 e1 t1 l1 s1)) 0 false) ∧ ∀ y ∈ d, contAny l1 y = true) _ ?_ ?_ ⟨Nat.le_refl _, rfl, fun _ hx => by simp at hx⟩
          · intro d y r h2 n2 K2 hy ⟨i1, i2, i3⟩ hF hT
            have hyl : y ∈ l2 := by rw [hy]; simp
            refine wk129 G (.mk 5 g1 c1 e1 t1 l1 s1) y (by simp only [JV.list]; omega) (fun x hx => ih x hx y (hpb y hyl) (Fits_mem fb.2 y hyl)) i2 (by omega) _ ?_
            intro h3 n3 hn3 hf3
            simp only [JV.list]
            cases hcy : contAny l1 y with
            | true =>
              refine hF h3 n3 hn3 ⟨by omega, by rw [hf3 0 (by omega), i2], fun z hz => ?_⟩
              rcases List.mem_append.1 hz with hz | hz
              · exact i3 z hz
              · rw [List.mem_singleton.1 hz]; exact hcy
            | false =>
              have hall : l2.all (fun y => contAny l1 y) = false := by
                rw [List.all_eq_false]
                exact ⟨y, hyl, by rw [hcy]; simp⟩
              refine hT h3 n3 hn3 (n_1 (by omega) rfl ?_)
              rw [hall]
              refine wB1 trivial ?_
              simp only [one1, frz_s, Option.map_some]
          · intro h2 n2 ⟨i1, i2, i3⟩
            have hall : l2.all (fun y => contAny l1 y) = true := by
              rw [List.all_eq_true]
              exact fun y hy => i3 y hy
            refine n_1 (by omega) rfl ?_
            rw [hall]
            refine wB1 trivial ?_
            simp only [one1, frz_s, Option.map_some]
        · by_cases k6 : k1 = 6
          · subst k6
            have k26 : k2 = 6 := by
              simp only [like, Bool.and_eq_true, decide_eq_true_eq] at hl'
              omega
            subst k26
            have n1 := sa.2.2.2.1 rfl
            have n2 := sb.2.2.2.1 rfl
            rw [show cont (.mk 6 g1 c1 e1 t1 l1 s1) (.mk 6 g2 c2 e2 t2 l2 s2) = (s2.zip l2).all (fun p => decide (0 ≤ idxS s1 p.1 0) && contAt l1 (idxS s1 p.1 0).toNat p.2) by simp [cont, JV.kind, JV.list, JV.keys, hl']]
            have hget := fun s => pc131 G g1 c1 e1 t1 l1 s1 s fa n1
            simp only [enc] at hlk hget ⊢
            refine Pc_of (Gf_enter (C := Cf G) Tryz.func74 rfl ok74 (Nat.le_of_ble_eq_true rfl) ?_)
            simp only [Tryz.f74, Option.getD_some]
            refine wC1 trivial (wa hlk trivial) ?_
            refine Gc_loop_inv (fun m st => ∃ k, k + m = s2.length ∧ ((s2.zip l2).take k).all (fun p => decide (0 ≤ idxS s1 p.1 0) && contAt l1 (idxS s1 p.1 0).toNat p.2) = true ∧ st.T 2 = .ptr 0 0 ∧ st.T 3 = .ptr 1 0 ∧ st.T 37 = .psl (strs s2) s2.length ∧ st.T 38 = .sc (.int .i64 s2.length) ∧ st.T 39 = .sc (.int .i64 k) ∧
              st.h 0 = some (.cells [.sc (.int .i64 6), .sc (.bool g1), .psl (u32s c1) c1.length, .sc (.int .i64 e1), .sc (.string t1), .psl (encs l1) l1.length, .psl (strs s1) s1.length] 0 false) ∧
              st.h 1 = some (.cells [.sc (.int .i64 6), .sc (.bool g2), .psl (u32s c2) c2.length, .sc (.int .i64 e2), .sc (.string t2), .psl (encs l2) l2.length, .psl (strs s2) s2.length] 0 false) ∧ 2 ≤ st.n) ?_ s2.length _ ⟨0, Nat.zero_add _, rfl, rfl, rfl, rfl, rfl, rfl, rfl, rfl, Nat.le_refl _⟩
            rintro m ⟨T, h, n⟩ ⟨k, hkm, hall, u2, u3, u37, u38, u39, b0, b1, hn⟩
            simp only at u2 u3 u37 u38 u39 b0 b1 hn
            cases m with
            | zero =>
              have e : k = s2.length := by omega
              have hge : ¬ (k : Int) < (s2.length : Int) := by omega
              rw [List.take_of_length_le (by rw [List.length_zip]; omega)] at hall
              rw [hall]
              refine wB1 (wa u2 (wa u3 (wa u37 (wa u38 (wa u39 (wa b0 (wa b1 hge))))))) ?_
              simp only [one1, frz_s, Option.map_some]
            | succ m =>
              have hkn : k < s2.length := by omega
              have hlt : (k : Int) < (s2.length : Int) := by omega
              have hkl : k < l2.length := by omega
              have hkz : k < (s2.zip l2).length := by rw [List.length_zip]; omega
              obtain ⟨s, hs⟩ : ∃ s, s2[k]? = some s := ⟨s2[k], List.getElem?_eq_getElem hkn⟩
              obtain ⟨y, hy⟩ : ∃ y, l2[k]? = some y := ⟨l2[k], List.getElem?_eq_getElem hkl⟩
              have hyl : y ∈ l2 := List.mem_of_getElem? hy
              have hz : (s2.zip l2)[k]? = some (s, y) := by rw [List.getElem?_zip_eq_some]; exact ⟨hs, hy⟩
              have hsc : (strs s2)[k * 1]? = some (.sc (.string s)) := by simp [strs, hs]
              have htk : (s2.zip l2).take (k + 1) = (s2.zip l2).take k ++ [(s, y)] := by
                rw [List.take_add_one, hz]
                rfl
              have hg := hget s
              have w1 : IntKind.i64.wrap ((k : Int) + 1) = ((k + 1 : Nat) : Int) := by rw [i64 (by omega) (by omega)]; omega
              have hno : (decide (0 ≤ idxS s1 s 0) && contAt l1 (idxS s1 s 0).toNat y) = false → (s2.zip l2).all (fun p => decide (0 ≤ idxS s1 p.1 0) && contAt l1 (idxS s1 p.1 0).toNat p.2) = false := fun h => by
                rw [List.all_eq_false]
                exact ⟨(s, y), List.mem_of_getElem? hz, by simpa using h⟩
              have q0 : ¬ 0 = n := by omega
              have q1 : ¬ 1 = n := by omega
              have q0' : ¬ n = 0 := by omega
              have q1' : ¬ n = 1 := by omega
              have q2 : (0 == n) = false := by simp; omega
              have q3 : (1 == n) = false := by simp; omega
              have q4 : (n == 0) = false := by simp; omega
              have q5 : (n == 1) = false := by simp; omega
              by_cases hpos : 0 ≤ idxS s1 s 0
              · obtain ⟨x, hx⟩ : ∃ x, l1[(idxS s1 s 0).toNat]? = some x := by
                  have hr := idxS_rng s1 s 0
                  exact ⟨l1[(idxS s1 s 0).toNat]'(by omega), List.getElem?_eq_getElem (by omega)⟩
                have hxl : x ∈ l1 := List.mem_of_getElem? hx
                rw [show getV s1 l1 s = some x by unfold getV; rw [if_pos hpos, hx]] at hg
                have hok : (decide (0 ≤ idxS s1 s 0) && contAt l1 (idxS s1 s 0).toNat y) = cont x y := by rw [decide_eq_true hpos, contAt_at, hx]; rfl
                rw [hok] at hno
                have hxy := ih x hxl y (hpb y hyl) (Fits_mem fb.2 y hyl)
                have hc2 : l2 = l2.take k ++ y :: l2.drop (k + 1) := by
                  obtain ⟨hk', he⟩ := List.getElem?_eq_some_iff.1 hy
                  rw [← he, ← List.drop_eq_getElem_cons hk', List.take_append_drop]
                obtain ⟨y', r', hr', _, hcut, hle⟩ := split_at hc2 (by rw [List.length_take]; omega)
                simp only [List.cons.injEq] at hr'
                rw [List.length_take, Nat.min_eq_left (by omega), ← hr'.1] at hcut
                rw [List.length_take, Nat.min_eq_left (by omega)] at hle
                obtain ⟨xk, xg, xc, xe, xt, xl, xs⟩ := x
                obtain ⟨yk, yg, yc, ye, yt, yl, ys⟩ := y
                simp only [getR] at hg
                generalize cont (.mk xk xg xc xe xt xl xs) (.mk yk yg yc ye yt yl ys) = cxy at *
                simp only [enc] at hg hxy hcut
                cases cxy with
                | true =>
                  refine wC1 (wa u2 (wa u3 (wa u37 (wa u38 (wa u39 (wa b0 (wa b1 (wa hlt (wa hkn (wa hkl (wa hsc (wa hcut (wa hle (wa w1 (wa q0 (wa q1 (wa q0' q1'))))))))))))))))) (wa hg (wa hxy trivial)) ?_
                  refine ⟨m, by omega, k + 1, by omega, by rw [htk, List.all_append, hall]; simp [hok], ?_, ?_, ?_, ?_, ?_, ?_, ?_, ?_⟩
                  all_goals first | (simp only [vop, val, argsT, upd_ap, Nat.reduceEqDiff, if_true, if_false, ite_true, ite_false, reduceIte, loadAt, loadA, AV.cells, AV.one, List.all_cons, List.all_nil, ofV, ofCell, plain, List.getElem?_cons_zero, List.getElem?_cons_succ, List.getElem?_toArray, Option.getD_some, Bool.not_true, Bool.not_false, Bool.false_eq_true, Bool.and_true, Bool.true_and, Bool.and_self, Nat.zero_add, Option.map_some, Option.bind_some, List.map_cons, List.map_nil, ev_add, ev_sub, ev_mul, ev_lss, ev_leq, ev_gtr, ev_geq, ev_eql, ev_neq, ev_seql, ev_sneq, ev_sleq, ev_slss, ev_not, ev_min, ev_max, asNat_nat, asNat_zero, asNat_one, asNat_two, asNat_three, vb_len, List.length_cons, List.length_nil, Nat.reduceAdd, Nat.reduceLeDiff, Nat.reduceMul, Int.reduceEq, Int.reduceLT, Int.reduceLE, Int.reduceNeg, Int.reduceAdd, Int.reduceSub, Nat.reduceLT, decide_true, decide_false, not_true_eq_false, not_false_eq_true, and_self, and_true, true_and, storeA, List.take_zero, List.drop_succ_cons, List.drop_zero, List.nil_append, List.append_nil, List.take_succ_cons, List.cons_append, cut_cons, cut_zero, cut_skip, tAt, hHide, hAt, upsAt, List.contains_cons, List.contains_nil, Nat.reduceBEq, Bool.or_true, Bool.true_or, Bool.or_false, Bool.false_or, Bool.or_self, Bool.and_true, Bool.true_and, Bool.and_false, Bool.false_and, beq_self_eq_true (α := Nat), Option.some_beq_some, Option.none_beq_some, Option.some_beq_none, Bool.false_eq_true, List.all_nil, touch, touchB, Nat.sub_self, List.range'_zero, Nat.add_sub_cancel_left, List.range'_one, u2, u3, u37, u38, b0, b1, q0, q1]; done) | (show 2 ≤ n + 1; omega)
                | false =>
                  rw [hno rfl]
                  refine wC1 (wa u2 (wa u3 (wa u37 (wa u38 (wa u39 (wa b0 (wa b1 (wa hlt (wa hkn (wa hkl (wa hsc (wa hcut (wa hle (wa w1 (wa q0 (wa q1 (wa q0' q1'))))))))))))))))) (wa hg (wa hxy trivial)) ?_
                  simp only [one1, frz_s, Option.map_some]
              · rw [show getV s1 l1 s = none by unfold getV; rw [if_neg hpos]] at hg
                rw [hno (by rw [decide_eq_false hpos]; rfl)]
                simp only [getR, nullV, enc] at hg
                refine wC1 (wa u2 (wa u3 (wa u37 (wa u38 (wa u39 (wa b0 (wa b1 (wa hlt (wa hkn (wa hkl (wa hsc (wa w1 (wa q0 (wa q1 (wa q0' q1'))))))))))))))) (wa hg trivial) ?_
                simp only [one1, frz_s, Option.map_some]
          · have hk3 : k1 < 4 := by omega
            have hk3' : k2 < 4 := by
              simp only [like, Bool.and_eq_true, decide_eq_true_eq] at hl'
              omega
            obtain ⟨a1, a2, a3, a4, a5⟩ := leaf_of va.own hk3 fa.1.coef
            obtain ⟨b1, b2, b3, b4, b5⟩ := leaf_of vb.own hk3' fb.1.coef
            have hO := pc132L G k1 g1 (nv c1).toNat e1 k2 g2 (nv c2).toNat e2 a5 b5
            rw [show cont (.mk k1 g1 c1 e1 t1 l1 s1) (.mk k2 g2 c2 e2 t2 l2 s2) = decide (ordL k1 g1 (nv c1).toNat e1 k2 g2 (nv c2).toNat e2 = 0) by simp [cont, JV.kind, hl', k4, k5, k6, eqLeaf, JV.neg, JV.coef, JV.exp]; exact decide_eq_decide.2 Iff.rfl]
            simp only [leafV] at hO
            rw [← a4, ← b4, ← a1] at hO
            subst a2; subst a3; subst b2; subst b3
            rw [a1] at hO hlk ⊢
            rw [b1] at hlk ⊢
            simp only [enc] at hO hlk ⊢
            generalize ordL k1 g1 (nv c1).toNat e1 k2 g2 (nv c2).toNat e2 = o at *
            refine Pc_of (Gf_enter (C := Cf G) Tryz.func74 rfl ok74 (Nat.le_of_ble_eq_true rfl) ?_)
            simp only [Tryz.f74, Option.getD_some]
            refine wC1 (wa k4 (wa k5 k6)) (wa hlk (wa hO trivial)) ?_
            simp only [one1, frz_s, Option.map_some]
  termination_by v => v
  decreasing_by
    simp_wf
    have := List.sizeOf_lt_of_mem hx
    omega
end Go.Proofs.Bv
namespace Go.Proofs.Bv
open Go
theorem ok28 : codeOk 21 (Tryz.f28.body.getD .skip) = true := by kernel_rfl
theorem ok6 : codeOk 77 (Tryz.f6.body.getD .skip) = true := by kernel_rfl
def contR (a b : JV) : Bool × Int := if ¬ chks [a, b] = 0 then (false, chks [a, b]) else if like a.kind b.kind = false then (false, 41) else (cont a b, 0)
theorem chks_zero {a b : JV} (h : chks [a, b] = 0) : chk a = 0 ∧ chk b = 0 := by
  simp only [chks] at h
  split at h
  · rename_i h1
    split at h
    · rename_i h2; exact ⟨h1, h2⟩
    · rename_i h2; exact absurd h h2
  · rename_i h1; exact absurd h h1
theorem chks_rng (a b : JV) : 0 ≤ chks [a, b] ∧ chks [a, b] ≤ 100 := by
  have h1 := chk_rng a
  have h2 := chk_rng b
  simp only [chks]
  repeat' split
  all_goals omega
set_option maxHeartbeats 4000000 in
set_option maxRecDepth 100000 in
theorem pc28 (G : Nat → Option (List AV)) (a b : JV) (fa : Fit a) (fb : Fit b) : Pc (Cf G) 28 [.agg (enc a), .agg (enc b)] (.tup [.sc (.bool (contR a b).1), .sc (.int .i64 (contR a b).2)]) := by
  have h1 := pc54 G [a, b] (by simp) ⟨fa, fb, trivial⟩
  have h2 := pc73 G a b
  have h3 := fun h : chks [a, b] = 0 => pc74 G a (vd_chk (chks_zero h).1) fa b (vd_chk (chks_zero h).2) fb
  by_cases he : chks [a, b] = 0
  · have h3 := h3 he
    rw [he] at h1
    by_cases hl : like a.kind b.kind = false
    · rw [show contR a b = (false, 41) by unfold contR; rw [if_neg (by simp [he]), if_pos hl]]
      rw [hl] at h2
      clear h3 he hl
      obtain ⟨k1, g1, c1, e1, t1, l1, s1⟩ := a
      obtain ⟨k2, g2, c2, e2, t2, l2, s2⟩ := b
      simp only [encs, enc, List.cons_append, List.nil_append, List.append_nil, List.length_cons, List.length_nil, Nat.zero_add, Nat.reduceAdd] at h1 h2 ⊢
      refine Pc_of (Gf_enter (C := Cf G) Tryz.func28 rfl ok28 (Nat.le_of_ble_eq_true rfl) ?_)
      simp only [Tryz.f28, Option.getD_some]
      refine wF1 trivial (wa h1 (wa h2 trivial)) ?_
      simp only [one1, frz_t, mapF, frz_s, Option.map_some, List.append_nil]
    · rw [show contR a b = (cont a b, 0) by unfold contR; rw [if_neg (by simp [he]), if_neg hl]]
      have hl' : like a.kind b.kind = true := by simpa using hl
      rw [hl'] at h2
      generalize cont a b = r at *
      clear he hl hl'
      obtain ⟨k1, g1, c1, e1, t1, l1, s1⟩ := a
      obtain ⟨k2, g2, c2, e2, t2, l2, s2⟩ := b
      simp only [encs, enc, List.cons_append, List.nil_append, List.append_nil, List.length_cons, List.length_nil, Nat.zero_add, Nat.reduceAdd] at h1 h2 h3 ⊢
      refine Pc_of (Gf_enter (C := Cf G) Tryz.func28 rfl ok28 (Nat.le_of_ble_eq_true rfl) ?_)
      simp only [Tryz.f28, Option.getD_some]
      refine wF1 trivial (wa h1 (wa h2 (wa h3 trivial))) ?_
      simp only [one1, frz_t, mapF, frz_s, Option.map_some, List.append_nil]
  · rw [show contR a b = (false, chks [a, b]) by unfold contR; rw [if_pos he]]
    clear h3
    generalize chks [a, b] = e at *
    obtain ⟨k1, g1, c1, e1, t1, l1, s1⟩ := a
    obtain ⟨k2, g2, c2, e2, t2, l2, s2⟩ := b
    simp only [encs, enc, List.cons_append, List.nil_append, List.append_nil, List.length_cons, List.length_nil, Nat.zero_add, Nat.reduceAdd] at h1 h2 ⊢
    refine Pc_of (Gf_enter (C := Cf G) Tryz.func28 rfl ok28 (Nat.le_of_ble_eq_true rfl) ?_)
    simp only [Tryz.f28, Option.getD_some]
    refine wF1 he (wa h1 trivial) ?_
    simp only [one1, frz_t, mapF, frz_s, Option.map_some, List.append_nil]
theorem contR_rng (a b : JV) : 0 ≤ (contR a b).2 ∧ (contR a b).2 ≤ 100 := by
  have := chks_rng a b
  unfold contR
  split
  · exact this
  · split <;> simp
theorem contains_law (a b c : JV) : ((contR a a).2 ≠ 0 → (contR a a).1 = false ∧ (contR a b).1 = false) ∧
    ((contR a a).2 = 0 → (contR a a).1 = true ∧ ((contR a b).2 = 0 → (contR b c).2 = 0 → (contR a c).2 = 0 ∧ ((contR a b).1 = true → (contR b c).1 = true → (contR a c).1 = true))) := by
  have hs : ∀ {x y : JV}, (contR x y).2 = 0 → chk x = 0 ∧ chk y = 0 ∧ like x.kind y.kind = true ∧ (contR x y).1 = cont x y := by
    intro x y h
    unfold contR at h ⊢
    split at h
    · rename_i h1; exact absurd h h1
    · rename_i h1
      have h1 := Decidable.not_not.1 h1
      rw [if_neg (by simp [h1])]
      split at h
      · simp at h
      · rename_i h2
        have h2 : like x.kind y.kind = true := by simpa using h2
        exact ⟨(chks_zero h1).1, (chks_zero h1).2, h2, by rw [if_neg (by simp [h2])]⟩
  have hb : ∀ {x y : JV}, chk x = 0 → chk y = 0 → like x.kind y.kind = true → contR x y = (cont x y, 0) := by
    intro x y h1 h2 h3
    unfold contR
    rw [if_neg (by simp [chks, h1, h2]), if_neg (by simp [h3])]
  constructor
  · intro h
    have hc : chk a ≠ 0 := fun e => h (by rw [hb e e (like_refl _)])
    have e1 : ∀ y, ¬ chks [a, y] = 0 := fun y e => hc (chks_zero e).1
    exact ⟨by unfold contR; rw [if_pos (e1 a)], by unfold contR; rw [if_pos (e1 b)]⟩
  · intro h
    obtain ⟨ha, _, _, h4⟩ := hs h
    refine ⟨by rw [h4]; exact cont_refl a (vd_chk ha), fun h1 h2 => ?_⟩
    obtain ⟨_, hb2, l1, q1⟩ := hs h1
    obtain ⟨_, hc2, l2, q2⟩ := hs h2
    rw [hb ha hc2 (like_trans l1 l2), q1, q2]
    exact ⟨rfl, fun r1 r2 => cont_trans a (vd_chk ha) b c (vd_chk hb2) (vd_chk hc2) r1 r2⟩
set_option maxHeartbeats 4000000 in
set_option maxRecDepth 100000 in
theorem pc6 (G : Nat → Option (List AV)) (a b c : JV) (fa : Fit a) (fb : Fit b) (fc : Fit c) : Pc (Cf G) 6 [.agg (enc a), .agg (enc b), .agg (enc c)] (.sc (.bool true)) := by
  have h11 := pc11 G
  have r1 := pc28 G a a fa fa
  have r2 := pc28 G a b fa fb
  have r3 := pc28 G b c fb fc
  have r4 := pc28 G a c fa fc
  obtain ⟨p1, p2⟩ := contains_law a b c
  have n1 := contR_rng a a
  have n2 := contR_rng a b
  have n3 := contR_rng b c
  have n4 := contR_rng a c
  generalize contR a a = x1 at *
  generalize contR a b = x2 at *
  generalize contR b c = x3 at *
  generalize contR a c = x4 at *
  obtain ⟨u1, v1⟩ := x1
  obtain ⟨u2, v2⟩ := x2
  obtain ⟨u3, v3⟩ := x3
  obtain ⟨u4, v4⟩ := x4
  simp only at p1 p2 n1 n2 n3 n4 r1 r2 r3 r4
  have m1 := pc13 G v1 (by omega)
  have m2 := pc13 G v2 (by omega)
  have m3 := pc13 G v3 (by omega)
  have m4 := pc13 G v4 (by omega)
  obtain ⟨k1, g1, c1, e1, t1, l1, s1⟩ := a
  obtain ⟨k2, g2, c2, e2, t2, l2, s2⟩ := b
  obtain ⟨k3, g3, c3, e3, t3, l3, s3⟩ := c
  simp only [enc] at r1 r2 r3 r4 ⊢
  by_cases h1 : v1 = 0
  · subst h1
    obtain ⟨hu1, hrest⟩ := p2 rfl
    subst hu1
    by_cases h2 : v2 = 0
    · subst h2
      by_cases h3 : v3 = 0
      · subst h3
        obtain ⟨h4, h5⟩ := hrest rfl rfl
        subst h4
        cases u2 <;> cases u3 <;> cases u4 <;> try (simp at h5; done)
        all_goals
          refine Pc_of (Gf_enter (C := Cf G) Tryz.func6 rfl ok6 (Nat.le_of_ble_eq_true rfl) ?_)
          simp only [Tryz.f6, Option.getD_some]
          refine wC1 trivial (wa h11 (wa r1 (wa r2 (wa r3 (wa r4 (wa m1 trivial)))))) ?_
          simp only [one1, frz_s, Option.map_some]
      · refine Pc_of (Gf_enter (C := Cf G) Tryz.func6 rfl ok6 (Nat.le_of_ble_eq_true rfl) ?_)
        simp only [Tryz.f6, Option.getD_some]
        refine wC1 h3 (wa h11 (wa r1 (wa r2 (wa r3 (wa r4 (wa m1 (wa m3 trivial))))))) ?_
        simp only [one1, frz_s, Option.map_some]
    · refine Pc_of (Gf_enter (C := Cf G) Tryz.func6 rfl ok6 (Nat.le_of_ble_eq_true rfl) ?_)
      simp only [Tryz.f6, Option.getD_some]
      refine wC1 h2 (wa h11 (wa r1 (wa r2 (wa r3 (wa r4 (wa m1 (wa m2 trivial))))))) ?_
      simp only [one1, frz_s, Option.map_some]
  · obtain ⟨hu1, hu2⟩ := p1 h1
    subst hu1; subst hu2
    refine Pc_of (Gf_enter (C := Cf G) Tryz.func6 rfl ok6 (Nat.le_of_ble_eq_true rfl) ?_)
    simp only [Tryz.f6, Option.getD_some]
    refine wC1 h1 (wa h11 (wa r1 (wa r2 (wa r3 (wa r4 (wa m1 trivial)))))) ?_
    simp only [one1, frz_s, Option.map_some]
end Go.Proofs.Bv
