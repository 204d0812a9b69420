/-
  A part of the proof of CliLettersUptoCardSaid: BvOrc, BvFrz, BvDrawG, BkFrz2.
  Conditions: those that each part names.
-/
import Derived.Test.YtplbncajfignlaaGreatDoorCl07
import Derived.Below
set_option linter.unusedSimpArgs false
set_option linter.unusedVariables false
namespace Go.Proofs.Bv
open Go Go.RowKit
section
variable {C : Cfg} {Z : Nat → Prop} {w w' : World}
theorem Step.below (hr : HR C noMap Z noHeap w) (hb : Below w.heap.size w w') : Step C noMap Z noHeap 0 w noMap Z noHeap 0 w' := by
  have hk : ∀ r, Z r → w'.heap[r]? = w.heap[r]? := fun r hz => hb.block r (hr.zlt r hz)
  exact {
    hr := ⟨fun b cs es fz e => by simp [noHeap] at e, fun b L e => by simp [noHeap] at e, fun b b' o o' mb mb' e => by simp [noHeap] at e, fun r hz => Nat.lt_of_lt_of_le (hr.zlt r hz) hb.size,
      fun g cs e => RV_mono (fun _ h => h) hk _ (fun _ _ h => h) (hr.glob g cs e)⟩
    mext := fun _ _ e => e
    mnew := fun _ e => .inl e
    zext := fun _ e => e
    znew := fun _ e => .inl e
    nle := Nat.le_refl _
    size := hb.size
    frame := fun r h _ => hb.block r h
    dom := fun _ _ e => e
    os := hb.os
    tape := hb.tape
    output := hb.output }
theorem orc_upon {f : FuncId} {us : List Value} {v : AV} {u : Value} (hr : HR C noMap Z noHeap w) (hent : (callFunc f us.toArray).run C.P w = .ok (.enter f us.toArray) w)
    (hc : Calls C.P f us.toArray w fun e w' => e = .returned u ∧ Below w.heap.size w w') (hv : ∀ w', RV Z w' v noMap u)
    (r : Option Nat) (o : Oper) (a : Act) (next : Act → World → Prop) (Q : Exit → Act → World → Prop)
    (hn : ∀ u w1 m1 Z1 h1 n1, Step C noMap Z noHeap 0 w m1 Z1 h1 n1 w1 → RV Z1 w1 v noMap u → next (a.put o.dst u) w1) :
    o.uponIn (Fw r) 0 C.P a next Q ((callFunc f us.toArray).run C.P w) := by
  rw [hent, Oper.uponIn_enter]
  refine ⟨fun h => by simp [Fw, Fence.wide] at h, CallsIn.mono (callsIn_wide.2 hc) ?_⟩
  rintro e w1 ⟨rfl, hb⟩
  exact hn u w1 noMap Z noHeap 0 (Step.below hr hb) (hv w1)
theorem Wk_orc {h : Heap} {n : Nat} {f : FuncId} {F : List AV → Option AV} {args caps : List AV} {r : AV} (ho : C.orc f = some F) (hp : purs (args ++ caps) = true) (hb : (args ++ caps).all noBox = true) (hF : F (args ++ caps) = some r) {Q : AV → Heap → Nat → Prop} (hq : Q r h n) :
    Wk C (.fn (.func f) caps) args h n Q := by
  refine ⟨0, r, h, n, ?_, hq⟩
  simp only [callOf, anycall, orcTry, hp, Bool.not_true, Bool.and_false, Bool.false_eq_true, if_false, hb, if_true, mapF_purs h 63 hp, ho, hF, Option.map_some, shut_nil, ite_self]
theorem st_orc {nt n : Nat} {h : Heap} {T T' : Nat → AV} {ops : Array Oper} {o : Oper} {l : List Oper} {Q : St → Prop} {f : Operand} {as : Array Operand} {ts : Array TypeId} {g : FuncId} {F : List AV → Option AV} {args caps : List AV} {r : AV}
    (hop : o.op = .call { callee := .value f, args := as, argTypes := ts }) (hg : goes ops T o = some true) (hf : val C T f = .fn (.func g) caps) (ha : as.toList.map (val C T) = args) (ho : C.orc g = some F) (hb : (args ++ caps).all noBox = true)
    (hr : purs (args ++ caps) = true) (hF : F (args ++ caps) = some r) (hp : putT nt T o.dst r = some T') (hw : Gw C nt ops l ⟨T', h, n⟩ Q) : Gw C nt ops (o :: l) ⟨T, h, n⟩ Q := by
  refine ⟨Wo_call hop hg hf ha (Wk_orc ho hr hb hF ⟨Nat.le_refl _, ?_⟩)⟩
  rw [hp]
  exact hw.go
end
end Go.Proofs.Bv
namespace Go.Proofs.Bv
open Go
section
variable {C : Cfg} {nt : Nat} {rd : Bool} {h : Heap} {n k : Nat}
theorem frz_p {a : AV} (hp : a.pur = true) : frz h (k + 1) a = some (a, []) := frz_pur h k hp
theorem frz_s {v : Value} : frz h (k + 1) (.sc v) = some (.sc v, []) := frz_pur h k rfl
theorem frz_l {cs : List AV} {len : Nat} : frz h (k + 1) (.psl cs len) = some (.psl cs len, []) := frz_pur h k rfl
theorem frz_pp {cs : List AV} {o : Nat} : frz h (k + 1) (.pptr cs o) = some (.pptr cs o, []) := frz_pur h k rfl
theorem frz_n : frz h (k + 1) .nilS = some (.psl [] 0, []) := by simp [frz, AV.pur]
theorem frz_e : frz h (k + 1) .emp = some (.psl [] 0, []) := by simp [frz, AV.pur]
theorem frz_o {b off len es : Nat} {cs : List AV} {fz : Bool} (hb : h b = some (.cells cs es fz)) (hl : off + len * es ≤ cs.length) (hp : purs (cut cs off (len * es)) = true) :
    frz h (k + 2) (.osl b off len) = some (.psl (cut cs off (len * es)) len, [b]) := by
  rw [frz, if_neg (by simp [AV.pur])]
  simp only [hb, if_pos hl, mapF_purs h k hp, Option.map_some]
theorem frz_w {b len es : Nat} {cs : List AV} {fz : Bool} (hb : h b = some (.cells cs es fz)) (hl : cs.length = len * es) (hp : purs cs = true) :
    frz h (k + 2) (.osl b 0 len) = some (.psl cs len, [b]) := by
  rw [frz_o hb (by omega) (by simpa [cut, ← hl] using hp)]
  simp [cut, ← hl]
theorem frz_a {cs : List AV} : frz h (k + 2) (.agg cs) = (mapF (frz h (k + 1)) cs).map fun r => (.agg r.1, r.2) := by
  rw [frz]
  split
  · rename_i hp
    simp only [AV.pur] at hp
    simp [mapF_purs h k hp]
  · rfl
theorem frz_t {cs : List AV} : frz h (k + 2) (.tup cs) = (mapF (frz h (k + 1)) cs).map fun r => (.tup r.1, r.2) := by
  rw [frz]
  split
  · rename_i hp
    simp only [AV.pur] at hp
    simp [mapF_purs h k hp]
  · rfl
theorem mapF_n {f : AV → Option (AV × List Nat)} : mapF f [] = some ([], []) := rfl
theorem mapF_c {f : AV → Option (AV × List Nat)} {a b : AV} {l m : List AV} {i j : List Nat} (h1 : f a = some (b, i)) (h2 : mapF f l = some (m, j)) : mapF f (a :: l) = some (b :: m, i ++ j) := by
  simp only [mapF, h1, h2]
theorem st_frzF {T T' : Nat → AV} {ops : Array Oper} {o : Oper} {l : List Oper} {Q : St → Prop} {f : Operand} {as : Array Operand} {ts : Array TypeId} {g : FuncId} {args caps fz : List AV} {ids : List Nat} {r : AV}
    (hop : o.op = .call { callee := .value f, args := as, argTypes := ts }) (hg : goes ops T o = some true) (hf : val C T f = .fn (.func g) caps) (ha : as.toList.map (val C T) = args) (hi : (C.inl g || C.own g) = false) (ho : C.orc g = none) (hb : (args ++ caps).all noBox = true)
    (hm : mapF (frz h 64) (args ++ caps) = some (fz, ids)) (hc : Pc C g fz r) (hfl : r.flat = true) (hp : putT nt T o.dst r = some T') (hw : Gw C nt ops l ⟨T', h, n⟩ Q) : Gw C nt ops (o :: l) ⟨T, h, n⟩ Q :=
  st_frz hop hg hf ha hi ho hb hm hc hp (by rw [if_pos hfl]; exact hw)
theorem st_frzS {T T' : Nat → AV} {ops : Array Oper} {o : Oper} {l : List Oper} {Q : St → Prop} {f : Operand} {as : Array Operand} {ts : Array TypeId} {g : FuncId} {args caps fz : List AV} {ids : List Nat} {r : AV}
    (hop : o.op = .call { callee := .value f, args := as, argTypes := ts }) (hg : goes ops T o = some true) (hf : val C T f = .fn (.func g) caps) (ha : as.toList.map (val C T) = args) (hi : (C.inl g || C.own g) = false) (ho : C.orc g = none) (hb : (args ++ caps).all noBox = true)
    (hm : mapF (frz h 64) (args ++ caps) = some (fz, ids)) (hc : Pc C g fz r) (hfl : r.flat = false) (hp : putT nt T o.dst r = some T') (hw : Gw C nt ops l ⟨T', shutIds h ids, n⟩ Q) : Gw C nt ops (o :: l) ⟨T, h, n⟩ Q :=
  st_frz hop hg hf ha hi ho hb hm hc hp (by rw [if_neg (by simp [hfl])]; exact hw)
theorem st_gs {T : Nat → AV} {ops : Array Oper} {o : Oper} {l : List Oper} {Q : St → Prop} {b : Bool} (_hg : goes ops T o = some b) (h1 : b = true → Gw C nt ops (o :: l) ⟨T, h, n⟩ Q) (h2 : b = false → Gw C nt ops (o :: l) ⟨T, h, n⟩ Q) : Gw C nt ops (o :: l) ⟨T, h, n⟩ Q := by
  cases b with
  | true => exact h1 rfl
  | false => exact h2 rfl
theorem gd_gs {ops : Array Oper} {o : Oper} {l : List Oper} {all : Nat → List Nat} {T0 : Nat → AV} {h0 : Heap} {hides : Nat → List Nat} {i : Nat} {recs : Recs} {Q : Recs → Nat → Prop} {pre : List Nat} {b : Bool} (_hp : preOf recs (bindOn o) = pre) (_hg : goes ops (tAt T0 (all i) (fun j => pre.contains j) recs) o = some b)
    (h1 : b = true → Gd C ops all T0 h0 hides (o :: l) i recs n Q) (h2 : b = false → Gd C ops all T0 h0 hides (o :: l) i recs n Q) : Gd C ops all T0 h0 hides (o :: l) i recs n Q := by
  cases b with
  | true => exact h1 rfl
  | false => exact h2 rfl
theorem bq_t {b : Bool} : (b == true) = b := by cases b <;> rfl
theorem bq_f {b : Bool} : (b == false) = !b := by cases b <;> rfl
theorem shut_at {ids : List Nat} {b : Nat} : shutIds h ids b = if ids.contains b then (h b).map shutBlk else h b := rfl
end
end Go.Proofs.Bv
namespace Go.Proofs.Bv
open Go
section
variable {C : Cfg} {nt : Nat} {rd : Bool} {s : St} {ops : Array Oper} {all : Nat → List Nat} {T0 : Nat → AV} {h0 h' : Heap} {hides : Nat → List Nat} {l : List Oper} {i n n' : Nat} {recs : Recs} {Q : Recs → Nat → Prop} {o : Oper} {v : AV} {pre : List Nat}
theorem dgo_hides {fc : FcF} {hd hd' : Nat → List Nat} : (l : List Oper) → (i : Nat) → (recs : Recs) → (n : Nat) → (∀ j, i ≤ j → j < i + l.length → hd j = hd' j) →
    dgo C fc ops all T0 h0 hd l i recs n = dgo C fc ops all T0 h0 hd' l i recs n
  | [], _, _, _, _ => rfl
  | o :: l, i, recs, n, h => by
    have h1 := h i (Nat.le_refl _) (by simp)
    have ih : ∀ recs n, dgo C fc ops all T0 h0 hd l (i + 1) recs n = dgo C fc ops all T0 h0 hd' l (i + 1) recs n := fun recs n =>
      dgo_hides l (i + 1) recs n fun j a b => h j (by omega) (by simp only [List.length_cons]; omega)
    simp only [dgo, h1, ih]
def sk (x : Nat × DRec) : Nat × List Nat × List Nat := (x.1, x.2.pre, x.2.ups.map (·.1))
theorem incs_sk : {R R' : Recs} → R.map sk = R'.map sk → incs R = incs R' := by
  intro R R' h
  have hrec : ∀ {R R' : Recs}, R.map sk = R'.map sk → ∀ i, (recAt R i).map (·.pre) = (recAt R' i).map (·.pre) := by
    intro R
    induction R with
    | nil => intro R' h i; cases R' <;> simp_all [recAt]
    | cons x R ih =>
      intro R' h i
      cases R' with
      | nil => simp at h
      | cons y R' =>
        simp only [List.map_cons, List.cons.injEq, sk, Prod.mk.injEq] at h
        obtain ⟨⟨e1, e2, e3⟩, h⟩ := h
        obtain ⟨xi, xr⟩ := x
        obtain ⟨yi, yr⟩ := y
        simp only at e1 e2 e3
        subst e1
        simp only [recAt]
        split
        · simp [e2]
        · exact ih h i
  have hfm : ∀ {R R' : Recs} (f : Nat → List Nat → Bool), R.map sk = R'.map sk → (R.flatMap fun x => if f x.1 x.2.pre then [] else x.2.ups.map (·.1)) = (R'.flatMap fun x => if f x.1 x.2.pre then [] else x.2.ups.map (·.1)) := by
    intro R
    induction R with
    | nil => intro R' f h; cases R' <;> simp_all
    | cons x R ih =>
      intro R' f h
      cases R' with
      | nil => simp at h
      | cons y R' =>
        simp only [List.map_cons, List.cons.injEq, sk, Prod.mk.injEq] at h
        obtain ⟨⟨e1, e2, e3⟩, h⟩ := h
        simp only [List.flatMap_cons, e1, e2, e3, ih f h]
  funext i
  have h1 := hrec h i
  unfold incs
  cases ha : recAt R i with
  | none => cases hb : recAt R' i with
    | none => rfl
    | some r' => simp [ha, hb] at h1
  | some r => cases hb : recAt R' i with
    | none => simp [ha, hb] at h1
    | some r' =>
      simp only [ha, hb, Option.map_some, Option.some.injEq] at h1
      simp only [h1]
      have := hfm (fun j p => decide (j = i ∨ r'.pre.contains j = true ∨ p.contains i = true)) h
      simpa using this
structure Mid (C : Cfg) (ops : Array Oper) (all : Nat → List Nat) (s : St) (Q : Ex → St → Prop) (R1 : Recs) : Prop where
  go : ∃ L, (List.range ops.size).map (incs R1) = L ∧ Gd C ops all s.T s.h (pick L) ops.toList 0 [] s.n fun R2 nE => R2.map sk = R1.map sk ∧ Q .norm ⟨tAt s.T [] (fun _ => true) R2, hAt s.h (fun _ => true) R2, nE⟩
theorem gd_mid {Q : Ex → St → Prop} {R1 : Recs} {L : List (List Nat)} (hL : (List.range ops.size).map (incs R1) = L)
    (hw : Gd C ops all s.T s.h (pick L) ops.toList 0 [] s.n fun R2 nE => R2.map sk = R1.map sk ∧ Q .norm ⟨tAt s.T [] (fun _ => true) R2, hAt s.h (fun _ => true) R2, nE⟩) : Mid C ops all s Q R1 := ⟨⟨L, hL, hw⟩⟩
theorem gd_endG {R R' : Recs} {A : Prop} (h1 : R.map sk = R'.map sk) (h2 : A) : R.map sk = R'.map sk ∧ A := ⟨h1, h2⟩
theorem st_drawG {id : Nat} {Q : Ex → St → Prop} {LA : List (List Nat)} (hLA : openL ops = LA) (hnd : nodupB (ops.toList.filterMap (·.dst)) = true)
    (hw : Gd C ops (pick LA) s.T s.h (fun _ => []) ops.toList 0 [] s.n fun R1 _ => Mid C ops (pick LA) s Q R1) : Gc C nt rd (.region id ops true) s Q := by
  obtain ⟨k1, R1, nE1, h1, ⟨L, hL, ⟨k2, R2, nE, h2, hsk, hq⟩⟩⟩ := hw.go
  refine ⟨max k1 k2, .norm, ⟨tAt s.T [] (fun _ => true) R2, hAt s.h (fun _ => true) R2, nE⟩, ?_, hq⟩
  have hpk : ∀ j, 0 ≤ j → j < 0 + ops.toList.length → pick LA j = openAt ops j := fun j _ hj => pick_open hLA j (by simpa using hj)
  rw [dgo_all (al' := openAt ops) _ _ _ _ hpk] at h1 h2
  have g1 := dgo_up (C := C) (lv_up (Nat.le_max_left k1 k2)).1 _ _ h1
  have g2 := dgo_up (C := C) (lv_up (Nat.le_max_right k1 k2)).1 _ _ h2
  have e : ∀ j, j < ops.size → pick L j = incs R1 j := by
    intro j hj
    show (L[j]?).getD [] = _
    rw [← hL, List.getElem?_map, List.getElem?_range hj]
    rfl
  rw [dgo_hides (hd' := incs R1) _ _ _ _ (fun j _ hj => e j (by simpa using hj))] at g2
  unfold vc
  simp only [vcode, if_true, Option.map_eq_some_iff]
  refine ⟨_, ?_, rfl⟩
  unfold vdraw
  simp only
  rw [if_pos hnd, g1]
  simp only [g2]
  rw [if_pos]
  rw [incs_sk hsk]
  simp
theorem gd_frzF {f : Operand} {as : Array Operand} {ts : Array TypeId} {g : FuncId} {args caps fz : List AV} {ids : List Nat} {r : AV} (hop : o.op = .call { callee := .value f, args := as, argTypes := ts })
    (hb : ((bindOn o).all fun j => decide (j < i)) = true) (hp : preOf recs (bindOn o) = pre) (hg : goes ops (tAt T0 (all i) (fun j => pre.contains j) recs) o = some true)
    (hf : val C (tAt T0 (all i) (fun j => pre.contains j) recs) f = .fn (.func g) caps) (ha : as.toList.map (val C (tAt T0 (all i) (fun j => pre.contains j) recs)) = args) (hi : (C.inl g || C.own g) = false) (ho : C.orc g = none) (hbx : (args ++ caps).all noBox = true)
    (hm : mapF (frz (hHide (hides i) (hAt h0 (fun j => pre.contains j) recs)) 64) (args ++ caps) = some (fz, ids)) (hc : Pc C g fz r) (hfl : r.flat = true)
    (hw : Gd C ops all T0 h0 hides l (i + 1) ((i, ⟨pre, o.dst, r, [], n, n⟩) :: recs) n Q) : Gd C ops all T0 h0 hides (o :: l) i recs n Q := by
  obtain ⟨k, R, nE, h1, h2⟩ := hw.go
  obtain ⟨k2, hk2⟩ := hc
  refine ⟨max k k2, R, nE, ?_, h2⟩
  have g1 := dgo_up (C := C) (lv_up (Nat.le_max_left k k2)).1 _ _ h1
  have g2 := pcall_up (lv_up (Nat.le_max_right k k2)).1 _ hk2
  have hd : dstep C (lv C (max k k2)).fc (val C (tAt T0 (all i) (fun j => pre.contains j) recs)) (hHide (hides i) (hAt h0 (fun j => pre.contains j) recs)) n o.op = some (r, [], hHide (hides i) (hAt h0 (fun j => pre.contains j) recs), n) := by
    rw [hop]
    unfold dstep
    simp only [hf, ha]
    unfold dcall
    rw [orcTry_none ho]
    simp only [(orF hi).1, (orF hi).2, Bool.false_eq_true, if_false]
    rw [if_pos hbx, hm]
    simp only [g2, hfl, if_true]
  simp only [dgo]
  rw [if_pos hb, hp, hg]
  simp only [hd]
  rw [if_pos ⟨Nat.le_refl _, rfl⟩]
  exact g1
theorem gd_frzS {f : Operand} {as : Array Operand} {ts : Array TypeId} {g : FuncId} {args caps fz : List AV} {ids : List Nat} {r : AV} (hop : o.op = .call { callee := .value f, args := as, argTypes := ts })
    (hb : ((bindOn o).all fun j => decide (j < i)) = true) (hp : preOf recs (bindOn o) = pre) (hg : goes ops (tAt T0 (all i) (fun j => pre.contains j) recs) o = some true)
    (hf : val C (tAt T0 (all i) (fun j => pre.contains j) recs) f = .fn (.func g) caps) (ha : as.toList.map (val C (tAt T0 (all i) (fun j => pre.contains j) recs)) = args) (hi : (C.inl g || C.own g) = false) (ho : C.orc g = none) (hbx : (args ++ caps).all noBox = true)
    (hm : mapF (frz (hHide (hides i) (hAt h0 (fun j => pre.contains j) recs)) 64) (args ++ caps) = some (fz, ids)) (hc : Pc C g fz r) (hfl : r.flat = false) (htc : (ids.all fun b => !(hides i).contains b) = true)
    (hw : Gd C ops all T0 h0 hides l (i + 1) ((i, ⟨pre, o.dst, r, ids.map fun b => (b, shutIds (hHide (hides i) (hAt h0 (fun j => pre.contains j) recs)) ids b), n, n⟩) :: recs) n Q) : Gd C ops all T0 h0 hides (o :: l) i recs n Q := by
  obtain ⟨k, R, nE, h1, h2⟩ := hw.go
  obtain ⟨k2, hk2⟩ := hc
  refine ⟨max k k2, R, nE, ?_, h2⟩
  have g1 := dgo_up (C := C) (lv_up (Nat.le_max_left k k2)).1 _ _ h1
  have g2 := pcall_up (lv_up (Nat.le_max_right k k2)).1 _ hk2
  have hd : dstep C (lv C (max k k2)).fc (val C (tAt T0 (all i) (fun j => pre.contains j) recs)) (hHide (hides i) (hAt h0 (fun j => pre.contains j) recs)) n o.op = some (r, ids, shutIds (hHide (hides i) (hAt h0 (fun j => pre.contains j) recs)) ids, n) := by
    rw [hop]
    unfold dstep
    simp only [hf, ha]
    unfold dcall
    rw [orcTry_none ho]
    simp only [(orF hi).1, (orF hi).2, Bool.false_eq_true, if_false]
    rw [if_pos hbx, hm]
    simp only [g2, hfl, Bool.false_eq_true, if_false]
  simp only [dgo]
  rw [if_pos hb, hp, hg]
  simp only [hd]
  rw [if_pos ⟨Nat.le_refl _, htc⟩]
  exact g1
theorem gd_orc {f : Operand} {as : Array Operand} {ts : Array TypeId} {g : FuncId} {F : List AV → Option AV} {args caps : List AV} {r : AV} (hop : o.op = .call { callee := .value f, args := as, argTypes := ts })
    (hb : ((bindOn o).all fun j => decide (j < i)) = true) (hp : preOf recs (bindOn o) = pre) (hg : goes ops (tAt T0 (all i) (fun j => pre.contains j) recs) o = some true)
    (hf : val C (tAt T0 (all i) (fun j => pre.contains j) recs) f = .fn (.func g) caps) (ha : as.toList.map (val C (tAt T0 (all i) (fun j => pre.contains j) recs)) = args) (ho : C.orc g = some F) (hbx : (args ++ caps).all noBox = true)
    (hr : purs (args ++ caps) = true) (hF : F (args ++ caps) = some r)
    (hw : Gd C ops all T0 h0 hides l (i + 1) ((i, ⟨pre, o.dst, r, [], n, n⟩) :: recs) n Q) : Gd C ops all T0 h0 hides (o :: l) i recs n Q := by
  obtain ⟨k, R, nE, h1, h2⟩ := hw.go
  refine ⟨k, R, nE, ?_, h2⟩
  have hd : ∀ hh, dstep C (lv C k).fc (val C (tAt T0 (all i) (fun j => pre.contains j) recs)) hh n o.op = some (r, [], hh, n) := by
    intro hh
    rw [hop]
    unfold dstep
    simp only [hf, ha]
    unfold dcall orcTry
    rw [ho]
    simp only [hr, Bool.not_true, Bool.and_false, Bool.false_eq_true, if_false]
    rw [if_pos hbx, mapF_purs hh 63 hr]
    simp only [hF, Option.map_some, shut_nil, ite_self]
  simp only [dgo]
  rw [if_pos hb, hp, hg]
  simp only [hd]
  rw [if_pos ⟨Nat.le_refl _, rfl⟩]
  exact h1
theorem gd_inl {f : Operand} {as : Array Operand} {ts : Array TypeId} {g : FuncId} {args caps : List AV} {r : AV} {h1 : Heap} {n1 : Nat} {tch : List Nat} (hop : o.op = .call { callee := .value f, args := as, argTypes := ts })
    (hb : ((bindOn o).all fun j => decide (j < i)) = true) (hp : preOf recs (bindOn o) = pre) (hg : goes ops (tAt T0 (all i) (fun j => pre.contains j) recs) o = some true)
    (hf : val C (tAt T0 (all i) (fun j => pre.contains j) recs) f = .fn (.func g) caps) (ha : as.toList.map (val C (tAt T0 (all i) (fun j => pre.contains j) recs)) = args) (hi : C.inl g = true)
    (ho : orcTry C g (args ++ caps) (hHide (hides i) (hAt h0 (fun j => pre.contains j) recs)) = none) (hr : purs (args ++ caps) = true)
    (hc : ∃ k, (lv C k).fc g (args ++ caps) noHeap n = some (r, h1, n1)) (hn : n ≤ n1) (ht : List.range' n (n1 - n) = tch) (htc : (tch.all fun b => !(hides i).contains b) = true)
    (hw : Gd C ops all T0 h0 hides l (i + 1) ((i, ⟨pre, o.dst, r, tch.map fun b => (b, h1 b), n, n1⟩) :: recs) n1 Q) : Gd C ops all T0 h0 hides (o :: l) i recs n Q := by
  obtain ⟨k, R, nE, h2, h3⟩ := hw.go
  obtain ⟨k2, hk2⟩ := hc
  refine ⟨max k k2, R, nE, ?_, h3⟩
  have g1 := dgo_up (C := C) (lv_up (Nat.le_max_left k k2)).1 _ _ h2
  have g2 := (lv_up (C := C) (Nat.le_max_right k k2)).1 _ _ _ _ _ hk2
  have hd : dstep C (lv C (max k k2)).fc (val C (tAt T0 (all i) (fun j => pre.contains j) recs)) (hHide (hides i) (hAt h0 (fun j => pre.contains j) recs)) n o.op =
      some (r, tch, fun b => if n ≤ b ∧ b < n1 then h1 b else hHide (hides i) (hAt h0 (fun j => pre.contains j) recs) b, n1) := by
    rw [hop]
    unfold dstep
    simp only [hf, ha]
    unfold dcall
    rw [ho]
    simp only [hi, if_true, hr, g2, ht]
  simp only [dgo]
  rw [if_pos hb, hp, hg]
  simp only [hd]
  rw [if_pos ⟨hn, htc⟩]
  have e : (tch.map fun b => (b, if n ≤ b ∧ b < n1 then h1 b else hHide (hides i) (hAt h0 (fun j => pre.contains j) recs) b)) = tch.map fun b => (b, h1 b) := by
    subst ht
    apply List.map_congr_left
    intro b hb
    simp only [List.mem_range', Nat.one_mul] at hb
    rw [if_pos (by omega)]
  rw [e]
  exact g1
theorem st_inlX {h : Heap} {T T' : Nat → AV} {f : Operand} {as : Array Operand} {ts : Array TypeId} {g : FuncId} {args caps : List AV} {r : AV} {Q : St → Prop} (hop : o.op = .call { callee := .value f, args := as, argTypes := ts }) (hg : goes ops T o = some true)
    (hf : val C T f = .fn (.func g) caps) (ha : as.toList.map (val C T) = args) (hi : C.inl g = true) (ho : orcTry C g (args ++ caps) h = none) (hc : ∃ k, (lv C k).fc g (args ++ caps) h n = some (r, h', n')) (hn : n ≤ n') (hp : putT nt T o.dst r = some T')
    (hw : Gw C nt ops l ⟨T', h', n'⟩ Q) : Gw C nt ops (o :: l) ⟨T, h, n⟩ Q := by
  obtain ⟨k, hk⟩ := hc
  refine st_walk hop hg hf ha (by simp [hi]) ho ⟨⟨k, r, h', n', hk, ?_⟩⟩
  exact st_gn hn hp hw
theorem st_abs {c : Code} {Q : Ex → St → Prop} (P : (Nat → AV) → Prop) (hP : P s.T) (hw : ∀ T, P T → Gc C nt rd c ⟨T, s.h, s.n⟩ Q) : Gc C nt rd c s Q := hw s.T hP
theorem st_range' {g : Operand} {ps : Array Tmp} {as body : Code} {Q : Ex → St → Prop} {f : FuncId} {caps : List AV} {T : Nat → AV} {h : Heap} (hg : val C T g = .fn (.func f) caps)
    (hw : Gf C f (.fn (.yield n) [] :: caps) (upd h n (some (.loop ⟨T, nt, ps.toList, as, body, none, true⟩))) (n + 1) fun _ h' n' => rangeEnd T n Q h' n') : Gc C nt false (.rangeFunc g ps as body) ⟨T, h, n⟩ Q := st_range hg hw
end
end Go.Proofs.Bv
namespace Go.Proofs.Bv
open Go
theorem frz_ag {h : Heap} {k : Nat} {cs r : List AV} {i : List Nat} (hm : mapF (frz h (k + 1)) cs = some (r, i)) : frz h (k + 2) (.agg cs) = some (.agg r, i) := by
  rw [frz_a, hm]
  rfl
end Go.Proofs.Bv
