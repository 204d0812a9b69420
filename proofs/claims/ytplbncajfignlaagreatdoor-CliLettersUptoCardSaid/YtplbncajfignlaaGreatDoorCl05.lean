/-
  A part of the proof of CliLettersUptoCardSaid: BvOps3, BvOps4, BvOps5, BvOps6, BvOps7, BvCode, BvRun, BvFn, BvOwn, BvTop.
  Conditions: those that each part names.
-/
import Derived.Test.YtplbncajfignlaaGreatDoorCl04
import Derived.Laws.BytesArg
import Derived.Laws.IdiomStrings
set_option linter.unusedSimpArgs false
set_option linter.unusedVariables false
namespace Go.Proofs.Bv
open Go
section
variable {C : Cfg} {P : Program} {m m' : AMap} {Z Z' : Nat → Prop} {h h' : Heap} {n n' : Nat} {w w' : World}
theorem eqGuard_other {op : BinOp} {t : Nat} {xo yo : Operand} {a b : Value} (h1 : ∀ cs, a ≠ .agg cs) (h2 : a = .nilIface → b ≠ .nilIface) : (eqGuard op t xo yo a b).run P w = .ok () w := by
  unfold eqGuard
  cases a <;> cases b <;> first | (exfalso; exact h2 rfl rfl) | (exfalso; exact h1 _ rfl) | (cases op <;> rfl)
theorem nil_run {op : BinOp} {t : Nat} {xo yo : Operand} {d : TypeDesc} {x y v : AV} {a b : Value} (hu : P.underlying t = some d) (hd : nilDesc d x = true) (c : Bool) (hn : vnil x y = some c) (hx : RV Z w x m a) (hy : RV Z w y m b)
    (hv : (match op with | .eql => some (AV.sc (.bool c)) | .neq => some (.sc (.bool !c)) | _ => none) = some v) :
    ∃ u, (do eqGuard op t xo yo a b; Go.binOp op t a b : Sem Value).run P w = .ok u w ∧ RV Z w v m u := by
  have fin : (eqGuard op t xo yo a b).run P w = .ok () w → (∀ k i, a ≠ .int k i) → (∀ k i, a ≠ .float k i) → (∀ k i j, a ≠ .complex k i j) → (∀ s, a ≠ .string s) → (∀ k, (Op.equalIn (k + 1) t a b).run P w = .ok c w) →
      ∃ u, (do eqGuard op t xo yo a b; Go.binOp op t a b : Sem Value).run P w = .ok u w ∧ RV Z w v m u := by
    intro h1 h2 h3 h4 h5 h6
    have h7 : (Op.equal t a b).run P w = .ok c w := h6 9999
    cases op <;> simp only [reduceCtorEq, Option.some.injEq] at hv <;> subst hv
    · refine ⟨.bool c, ?_, by simp [RV, plain]⟩
      have : Go.binOp .eql t a b = (do pure (.bool (← Op.equal t a b)) : Sem Value) := by
        cases a <;> first | (exfalso; exact h2 _ _ rfl) | (exfalso; exact h3 _ _ rfl) | (exfalso; exact h4 _ _ _ rfl) | (exfalso; exact h5 _ rfl) | (cases b <;> rfl)
      rw [this]
      simp [h1, h7]
    · refine ⟨.bool !c, ?_, by simp [RV, plain]⟩
      have : Go.binOp .neq t a b = (do pure (.bool (!(← Op.equal t a b))) : Sem Value) := by
        cases a <;> first | (exfalso; exact h2 _ _ rfl) | (exfalso; exact h3 _ _ rfl) | (exfalso; exact h4 _ _ _ rfl) | (exfalso; exact h5 _ rfl) | (cases b <;> rfl)
      rw [this]
      simp [h1, h7]
  cases x <;> cases d <;> simp only [nilDesc] at hd <;> try (cases hd; done)
  case nilS.slice e =>
    simp only [RV] at hx
    subst hx
    cases y <;> simp only [vnil] at hn <;> try (cases hn; done)
    case nilS =>
      simp only [RV] at hy
      subst hy
      injection hn with hn; subst hn
      exact fin (eqGuard_other (by simp) (by simp)) (by simp) (by simp) (by simp) (by simp) (fun k => by simp only [Op.equalIn, Sem.run_bind, run_under hu, Result.andThen_ok]; rfl)
    case psl cs len =>
      cases len with
      | zero => simp at hn
      | succ len =>
        simp only [RV] at hy
        obtain ⟨a, cap, rfl, hh⟩ := hy
        rcases hh with ⟨h, _⟩ | ⟨_, blk, off, us, rfl, _⟩
        · cases h
        · injection hn with hn; subst hn
          exact fin (eqGuard_other (by simp) (by simp)) (by simp) (by simp) (by simp) (by simp) (fun k => by simp only [Op.equalIn, Sem.run_bind, run_under hu, Result.andThen_ok]; rfl)
    case emp =>
      simp only [RV] at hy
      obtain ⟨a, cap, rfl⟩ := hy
      injection hn with hn; subst hn
      exact fin (eqGuard_other (by simp) (by simp)) (by simp) (by simp) (by simp) (by simp) (fun k => by simp only [Op.equalIn, Sem.run_bind, run_under hu, Result.andThen_ok]; rfl)
    case osl b off len =>
      simp only [RV] at hy
      obtain ⟨mb, cap, _, rfl, _⟩ := hy
      injection hn with hn; subst hn
      exact fin (eqGuard_other (by simp) (by simp)) (by simp) (by simp) (by simp) (by simp) (fun k => by simp only [Op.equalIn, Sem.run_bind, run_under hu, Result.andThen_ok]; rfl)
  case emp.slice e =>
    simp only [RV] at hx
    obtain ⟨a, cap, rfl⟩ := hx
    cases y <;> simp only [vnil] at hn <;> try (cases hn; done)
    simp only [RV] at hy
    subst hy
    injection hn with hn; subst hn
    exact fin (eqGuard_other (by simp) (by simp)) (by simp) (by simp) (by simp) (by simp) (fun k => by simp only [Op.equalIn, Sem.run_bind, run_under hu, Result.andThen_ok]; rfl)
  case psl.slice cs len e =>
    cases len with
    | zero => cases y <;> simp [vnil] at hn
    | succ len =>
      simp only [RV] at hx
      obtain ⟨a, cap, rfl, hh⟩ := hx
      rcases hh with ⟨h, _⟩ | ⟨_, blk, off, us, rfl, _⟩
      · cases h
      · cases y <;> simp only [vnil] at hn <;> try (cases hn; done)
        simp only [RV] at hy
        subst hy
        injection hn with hn; subst hn
        exact fin (eqGuard_other (by simp) (by simp)) (by simp) (by simp) (by simp) (by simp) (fun k => by simp only [Op.equalIn, Sem.run_bind, run_under hu, Result.andThen_ok]; rfl)
  case osl.slice b off len e =>
    simp only [RV] at hx
    obtain ⟨mb, cap, _, rfl, _⟩ := hx
    cases y <;> simp only [vnil] at hn <;> try (cases hn; done)
    simp only [RV] at hy
    subst hy
    injection hn with hn; subst hn
    exact fin (eqGuard_other (by simp) (by simp)) (by simp) (by simp) (by simp) (by simp) (fun k => by simp only [Op.equalIn, Sem.run_bind, run_under hu, Result.andThen_ok]; rfl)
  case ptr.pointer b off e =>
    simp only [RV] at hx
    obtain ⟨mb, _, rfl⟩ := hx
    cases y <;> simp only [vnil] at hn <;> try (cases hn; done)
    rename_i y
    cases y <;> try (cases hn; done)
    rename_i y
    cases y <;> simp only at hn <;> try (cases hn; done)
    simp only [RV] at hy
    obtain ⟨rfl, _⟩ := hy
    injection hn with hn; subst hn
    exact fin (eqGuard_other (by simp) (by simp)) (by simp) (by simp) (by simp) (by simp) (fun k => by simp only [Op.equalIn, Sem.run_bind, run_under hu, Result.andThen_ok]; rfl)
  case pptr.pointer cs off e =>
    simp only [RV] at hx
    obtain ⟨blk, base, us, rfl, _⟩ := hx
    cases y <;> simp only [vnil] at hn <;> try (cases hn; done)
    rename_i y
    cases y <;> try (cases hn; done)
    rename_i y
    cases y <;> simp only at hn <;> try (cases hn; done)
    simp only [RV] at hy
    obtain ⟨rfl, _⟩ := hy
    injection hn with hn; subst hn
    exact fin (eqGuard_other (by simp) (by simp)) (by simp) (by simp) (by simp) (by simp) (fun k => by simp only [Op.equalIn, Sem.run_bind, run_under hu, Result.andThen_ok]; rfl)
  case fn.func f caps _ _ _ =>
    have hf : ∃ f' a' b', a = .func f' a' b' := by
      cases f <;> simp only [RV] at hx
      case yield => obtain ⟨_, _, rfl⟩ := hx; exact ⟨_, _, _, rfl⟩
      all_goals obtain ⟨_, rfl, _⟩ := hx; exact ⟨_, _, _, rfl⟩
    obtain ⟨f', a', b', rfl⟩ := hf
    cases y <;> simp only [vnil] at hn <;> try (cases hn; done)
    rename_i y
    cases y <;> simp only at hn <;> try (cases hn; done)
    simp only [RV] at hy
    obtain ⟨rfl, _⟩ := hy
    injection hn with hn; subst hn
    exact fin (eqGuard_other (by simp) (by simp)) (by simp) (by simp) (by simp) (by simp) (fun k => by simp only [Op.equalIn, Sem.run_bind, run_under hu, Result.andThen_ok]; rfl)
  case ifc.interface t' x' _ =>
    simp only [RV] at hx
    obtain ⟨u, rfl, _⟩ := hx
    cases y <;> simp only [vnil] at hn <;> try (cases hn; done)
    rename_i y
    cases y <;> simp only at hn <;> try (cases hn; done)
    simp only [RV] at hy
    obtain ⟨rfl, _⟩ := hy
    injection hn with hn; subst hn
    exact fin (eqGuard_other (by simp) (by simp)) (by simp) (by simp) (by simp) (by simp) (fun k => by simp only [Op.equalIn, Sem.run_bind, run_under hu, Result.andThen_ok]; rfl)
  case sc.pointer x' e =>
    cases x' <;> try (cases hd; done)
    rename_i x'
    cases x' <;> simp only at hd <;> try (cases hd; done)
    simp only [RV] at hx
    obtain ⟨rfl, _⟩ := hx
    cases y <;> simp only [vnil] at hn <;> try (cases hn; done)
    case ptr b off =>
      simp only [RV] at hy
      obtain ⟨mb, _, rfl⟩ := hy
      injection hn with hn; subst hn
      exact fin (eqGuard_other (by simp) (by simp)) (by simp) (by simp) (by simp) (by simp) (fun k => by simp only [Op.equalIn, Sem.run_bind, run_under hu, Result.andThen_ok]; rfl)
    case pptr cs off =>
      simp only [RV] at hy
      obtain ⟨blk, base, us, rfl, _⟩ := hy
      injection hn with hn; subst hn
      exact fin (eqGuard_other (by simp) (by simp)) (by simp) (by simp) (by simp) (by simp) (fun k => by simp only [Op.equalIn, Sem.run_bind, run_under hu, Result.andThen_ok]; rfl)
  case sc.func x' _ _ _ =>
    cases x' <;> simp only at hd <;> try (cases hd; done)
    simp only [RV] at hx
    obtain ⟨rfl, _⟩ := hx
    cases y <;> simp only [vnil] at hn <;> try (cases hn; done)
    rename_i f caps
    have hf : ∃ f' a' b', b = .func f' a' b' := by
      cases f <;> simp only [RV] at hy
      case yield => obtain ⟨_, _, rfl⟩ := hy; exact ⟨_, _, _, rfl⟩
      all_goals obtain ⟨_, rfl, _⟩ := hy; exact ⟨_, _, _, rfl⟩
    obtain ⟨f', a', b', rfl⟩ := hf
    injection hn with hn; subst hn
    exact fin (eqGuard_other (by simp) (by simp)) (by simp) (by simp) (by simp) (by simp) (fun k => by simp only [Op.equalIn, Sem.run_bind, run_under hu, Result.andThen_ok]; rfl)
  case sc.interface x' _ =>
    cases x' <;> simp only at hd <;> try (cases hd; done)
    simp only [RV] at hx
    obtain ⟨rfl, _⟩ := hx
    cases y <;> simp only [vnil] at hn <;> try (cases hn; done)
    simp only [RV] at hy
    obtain ⟨u, rfl, _⟩ := hy
    injection hn with hn; subst hn
    exact fin (eqGuard_other (by simp) (by simp)) (by simp) (by simp) (by simp) (by simp) (fun k => by simp only [Op.equalIn, Sem.run_bind, run_under hu, Result.andThen_ok]; rfl)
theorem vbin_sound {op : BinOp} {t : Nat} {xo yo : Operand} {x y v : AV} {a b : Value} (hx : RV Z w x m a) (hy : RV Z w y m b) (hv : vbin P op t xo yo x y = some v) :
    ∃ u, (do eqGuard op t xo yo a b; Go.binOp op t a b : Sem Value).run P w = .ok u w ∧ RV Z w v m u := by
  unfold vbin at hv
  split at hv
  · rename_i u1 u2 e1 e2
    obtain ⟨rfl, _⟩ := RV_toVal e1 hx
    obtain ⟨rfl, _⟩ := RV_toVal e2 hy
    cases hp : pureRun P (do eqGuard op t xo yo a b; Go.binOp op t a b) with
    | none => simp [hp] at hv
    | some r =>
      simp only [hp, Option.bind_some] at hv
      exact ⟨_, pureRun_run hp, by
        have hs := hv
        unfold scal at hs
        split at hs
        · injection hs with hs; subst hs; simp only [RV]; exact ⟨trivial, by assumption⟩
        · cases hs⟩
  · split at hv
    · rename_i d hu
      split at hv
      · rename_i c hd hn
        exact nil_run hu hd c hn hx hy hv
      · rename_i c hd hn
        exact nil_run hu hd c hn hx hy hv
      · cases hv
    · cases hv
end
end Go.Proofs.Bv
namespace Go.Proofs.Bv
open Go
section
variable {C : Cfg} {P : Program} {m m' : AMap} {Z Z' : Nat → Prop} {h h' : Heap} {n n' : Nat} {w w' : World}
theorem bound_run {a : AV} {x : Value} {i y : Nat} {code : BoundsCode} (ha : RV Z w a m x) (hi : asNat a = some i) (hy : i ≤ y) : (Instr.sliceBound x y code).run P w = .ok i w := by
  obtain ⟨k, rfl⟩ := asNat_sound ha hi
  have h5 : (0 : Int) ≤ (i : Int) ∧ (i : Int) ≤ (y : Int) := by omega
  simp [Instr.sliceBound, asIntOf, h5, hy]
theorem bnds_run {ρ : Operand → AV} {ev : Operand → Value} (hρ : ∀ x, RV Z w (ρ x) m (ev x)) {lo hi : Option Operand} {len cap l u : Nat} {isSl : Bool} (hb : bnds len (lo.map ρ) (hi.map ρ) = some (l, u)) (hc : len ≤ cap) :
    (Instr.sliceBounds isSl len cap (lo.map ev) (hi.map ev) none).run P w = .ok (l, u, cap) w ∧ l ≤ u ∧ u ≤ len := by
  unfold bnds at hb
  split at hb
  · rename_i u' l' e1 e2
    split at hb
    · rename_i hle
      injection hb with hb; injection hb with hb1 hb2; subst hb1; subst hb2
      refine ⟨?_, hle⟩
      cases hi with
      | none =>
        simp only [Option.map_none, Option.some.injEq] at e1
        subst e1
        cases lo with
        | none => simp at e2; subst e2; simp [Instr.sliceBounds]
        | some lo =>
          simp only [Option.map_some] at e2
          simp [Instr.sliceBounds, bound_run (P := P) (hρ lo) e2 hle.1]
      | some hi =>
        simp only [Option.map_some] at e1
        have h1 : ∀ code, (Instr.sliceBound (ev hi) cap code).run P w = .ok u' w := fun code => bound_run (hρ hi) e1 (Nat.le_trans hle.2 hc)
        cases lo with
        | none => simp at e2; subst e2; simp [Instr.sliceBounds, h1]
        | some lo =>
          simp only [Option.map_some] at e2
          simp [Instr.sliceBounds, h1, bound_run (P := P) (hρ lo) e2 hle.1]
    · cases hb
  · cases hb
theorem slice_string (hr : HR C m Z h w) {ρ : Operand → AV} {ev : Operand → Value} (hρ : ∀ x, RV Z w (ρ x) m (ev x)) {lo hi : Option Operand} {t l u : Nat} {s : ByteArray} {x : Value} (hu : P.underlying t = some .string)
    (hx : RV Z w (.sc (.string s)) m x) (hb : bnds s.size (lo.map ρ) (hi.map ρ) = some (l, u)) :
    OpOk C m Z h n w (((do pure (.value (← Instr.sliceAt t x (lo.map ev) (hi.map ev) none)) : Sem Next)).run P w) (.sc (.string (s.extract l u))) h n := by
  simp only [RV] at hx
  obtain ⟨rfl, _⟩ := hx
  obtain ⟨h1, _⟩ := bnds_run (P := P) (isSl := false) hρ hb (Nat.le_refl _)
  refine OpOk.same (u := .string (s.extract l u)) hr ?_ (by simp [RV, plain])
  simp [Instr.sliceAt, run_under hu, Instr.slice, h1]
theorem slice_psl (hr : HR C m Z h w) {ρ : Operand → AV} {ev : Operand → Value} (hρ : ∀ x, RV Z w (ρ x) m (ev x)) {lo hi : Option Operand} {t e s l u len : Nat} {cs : List AV} {x : Value} (hu : P.underlying t = some (.slice e))
    (hs : szOf P e = some s) (hx : RV Z w (.psl cs len) m x) (hb : bnds len (lo.map ρ) (hi.map ρ) = some (l, u)) :
    OpOk C m Z h n w (((do pure (.value (← Instr.sliceAt t x (lo.map ev) (hi.map ev) none)) : Sem Next)).run P w) (.psl (cut cs (l * s) ((u - l) * s)) (u - l)) h n := by
  simp only [RV] at hx
  obtain ⟨a, cap, rfl, hx⟩ := hx
  have hlc : len ≤ cap := by rcases hx with ⟨h, _⟩ | ⟨h, _⟩ <;> omega
  obtain ⟨h1, h2, h3⟩ := bnds_run (P := P) (isSl := true) hρ hb hlc
  refine OpOk.same (u := .slice (if cap = l then a else a.map (·.add (l * s))) (u - l) (cap - l)) hr ?_ ?_
  · simp [Instr.sliceAt, run_under hu, Instr.slice, h1, run_szOf hs]
  · simp only [RV]
    refine ⟨_, _, rfl, ?_⟩
    rcases hx with ⟨rfl, rfl, hcn⟩ | ⟨_, blk, off, us, rfl, hz, hc, hr⟩
    · exact .inl ⟨by omega, by simp [cut], fun e => by
        obtain rfl : l = 0 := by omega
        split at e
        · omega
        · simp only [Option.map_eq_none_iff] at e
          have := hcn e
          omega⟩
    · by_cases hlu : l = u
      · subst hlu; exact .inl ⟨by omega, by simp [cut], fun e => by
          split at e <;> simp at e⟩
      · refine .inr ⟨by omega, blk, off + l * s, (us.drop (l * s)).take ((u - l) * s), ?_, hz, ?_, RVs_cut hr _ _⟩
        · rw [if_neg (by omega)]; simp [addr_add]
        · intro i hi
          simp only [List.length_take, List.length_drop] at hi
          rw [Nat.add_assoc, hc (l * s + i) (by omega), List.getElem?_take, if_pos (by omega), List.getElem?_drop]
theorem slice_osl (hr : HR C m Z h w) {ρ : Operand → AV} {ev : Operand → Value} (hρ : ∀ x, RV Z w (ρ x) m (ev x)) {lo hi : Option Operand} {t e s l u b off len : Nat} {cs : List AV} {fz : Bool} {x : Value} (hu : P.underlying t = some (.slice e))
    (hs : szOf P e = some s) (hx : RV Z w (.osl b off len) m x) (hb : bnds len (lo.map ρ) (hi.map ρ) = some (l, u)) (hh : h b = some (.cells cs s fz)) :
    OpOk C m Z h n w (((do pure (.value (← Instr.sliceAt t x (lo.map ev) (hi.map ev) none)) : Sem Next)).run P w) (if l = 0 ∨ l < u then .osl b (off + l * s) (u - l) else .psl [] 0) h n := by
  simp only [RV] at hx
  obtain ⟨mb, cap, hm, rfl, hlc, hcap⟩ := hx
  obtain ⟨h1, h2, h3⟩ := bnds_run (P := P) (isSl := true) hρ hb hlc
  obtain ⟨mb', c, e', us, g1, g2, g3, _⟩ := hr.cells b cs s fz hh
  obtain rfl : mb = mb' := by rw [hm] at g1; injection g1
  refine OpOk.same (u := .slice (if cap = l then some ⟨mb.rb, mb.base + off, none⟩ else some ⟨mb.rb, mb.base + off + l * s, none⟩) (u - l) (cap - l)) hr ?_ ?_
  · simp [Instr.sliceAt, run_under hu, Instr.slice, h1, run_szOf hs, addr_add]
  · split
    · rename_i hl
      simp only [RV]
      refine ⟨mb, cap - l, hm, ?_, by omega, ?_⟩
      · by_cases hcl : cap = l
        · have h0 : l = 0 := by omega
          rw [if_pos hcl, h0]
          simp
        · rw [if_neg hcl, Nat.add_assoc]
      · rw [g2] at hcap ⊢
        have : (cap - l) * s + l * s = cap * s := by rw [← Nat.add_mul]; congr 1; omega
        omega
    · rename_i hl
      simp only [RV]
      exact ⟨_, _, by congr 1; omega, .inl ⟨trivial, trivial, fun e => by
        split at e <;> simp at e⟩⟩
theorem slice_nil (hr : HR C m Z h w) {ρ : Operand → AV} {ev : Operand → Value} (hρ : ∀ x, RV Z w (ρ x) m (ev x)) {lo hi : Option Operand} {t e s l u : Nat} {x : Value} (hu : P.underlying t = some (.slice e))
    (hs : szOf P e = some s) (hx : RV Z w .nilS m x) (hb : bnds 0 (lo.map ρ) (hi.map ρ) = some (l, u)) :
    OpOk C m Z h n w (((do pure (.value (← Instr.sliceAt t x (lo.map ev) (hi.map ev) none)) : Sem Next)).run P w) .nilS h n := by
  simp only [RV] at hx
  subst hx
  obtain ⟨h1, h2, h3⟩ := bnds_run (P := P) (isSl := true) hρ hb (Nat.le_refl _)
  obtain rfl : u = 0 := by omega
  obtain rfl : l = 0 := by omega
  refine OpOk.same (u := .slice none 0 0) hr ?_ (by simp only [RV])
  simp [Instr.sliceAt, run_under hu, Instr.slice, h1, run_szOf hs]
theorem rep_add {α : Type} (l : List α) : ∀ a b, rep (a + b) l = rep a l ++ rep b l
  | 0, b => by simp [rep]
  | a + 1, b => by rw [show a + 1 + b = (a + b) + 1 from by omega]; simp [rep, rep_add l a b]
theorem make_sound (hr : HR C m Z h w) (hn : m n = none) {t e l c : Nat} {i : TypeInfo} {z : List AV} {a b : AV} {x y : Value} (hu : P.underlying t = some (.slice e)) (hi : P.info? e = some i) (hz : zeroA P e = some z)
    (ha : RV Z w a m x) (hb : RV Z w b m y) (hl : asNat a = some l) (hc : asNat b = some c) (hlc : l ≤ c) (hby : c * i.bytes ≤ 140737488355328) (hcc : c ≤ 140737488355328) (hzl : z.length = i.size) (hp : 0 < i.size) :
    OpOk C m Z h n w (((do pure (.value (← Instr.makeSlice t x y)) : Sem Next)).run P w) (.osl n 0 l) (upd h n (some (.cells (rep l z) i.size false))) (n + 1) := by
  obtain ⟨u, hu1, _, h2⟩ := zeroA_sound (w := w) (Z := Z) (m := m) hz
  obtain ⟨k1, rfl⟩ := asNat_sound ha hl
  obtain ⟨k2, rfl⟩ := asNat_sound hb hc
  have hus : u.cells.size = i.size := by have := RVs_len h2; simp at this; omega
  have hrun := run_make (P := P) w t e i u hu hi (info_parts' hi hu1) k1 k2 (l : Int) (c : Int) (by omega) (by omega) (by rw [← Int.natCast_mul, Nat.mul_comm]; omega) (by omega)
  have hcells : madeCells u.cells (c * i.size) = (rep l u.cells.toList ++ rep (c - l) u.cells.toList).toArray := by
    have h7 := zeros_eq u.cells (by omega) c
    rw [hus] at h7
    rw [← rep_add, show l + (c - l) = c from by omega, ← h7]
    simp only [madeCells, hus, Array.toArray_toList]
  simp only [Int.toNat_natCast] at hrun
  rw [hcells] at hrun
  refine ⟨_, _, _, Z, .slice (some ⟨w.heap.size, 0, none⟩) l c, ?_, .inl rfl, new_spare hr hn (rep (c - l) u.cells.toList) e i.size (RVs_rep h2 l), ?_⟩
  · simp [hrun]
  · simp only [RV]
    refine ⟨_, c, upd_same _ _ _, by simp, hlc, ?_⟩
    simp only [List.length_append, rep_length, Array.length_toList, hus, Nat.zero_add]
    rw [← Nat.add_mul]
    exact Nat.mul_le_mul_right _ (by omega)
theorem firstCells_reads {blk base size k len cap : Nat} {us : List Value} (h1 : cellsAt w blk base us) (hk : k * size ≤ us.length) (hw : w'.heap = w.heap) :
    (Builtin.firstCells size k (.slice (some ⟨blk, base, none⟩) len cap)).run P w' = .ok (us.take (k * size)).toArray w' := by
  refine run_firstCells_some (P := P) w' size k _ len cap _ (by simp; omega) fun j u hj => ?_
  have hlt : j < k * size := by
    rcases Nat.lt_or_ge j (k * size) with h | h
    · exact h
    · rw [List.getElem?_eq_none (by simp; omega)] at hj; cases hj
  rw [List.getElem?_take, if_pos hlt] at hj
  rw [addr_add, ← hj, ← h1 j (by omega)]
  simp only [World.cell?, hw]
theorem readSl_sound (hr : HR C m Z h w) {a : AV} {v : Value} {xs : List AV} {l size : Nat} (ha : RV Z w a m v) (hx : readSl h a = some (xs, l)) (hl : xs.length = l * size) :
    ∃ us, (Builtin.lenOf v).run P w = .ok l w ∧ (∀ w' k, w'.heap = w.heap → k ≤ l → (Builtin.firstCells size k v).run P w' = .ok (us.take (k * size)).toArray w') ∧ RVs Z w xs m us := by
  have fin : ∀ {blk base cap}, v = .slice (some ⟨blk, base, none⟩) l cap → Reads Z w blk base xs m → ∃ us, (Builtin.lenOf v).run P w = .ok l w ∧ (∀ w' k, w'.heap = w.heap → k ≤ l → (Builtin.firstCells size k v).run P w' = .ok (us.take (k * size)).toArray w') ∧ RVs Z w xs m us := by
    rintro blk base cap rfl ⟨us, h1, h2⟩
    exact ⟨us, by simp [Builtin.lenOf], fun w' k hw hk => firstCells_reads h1 (by rw [RVs_len h2, hl]; exact Nat.mul_le_mul_right _ hk) hw, h2⟩
  cases a <;> simp only [readSl] at hx <;> try (cases hx; done)
  case nilS =>
    injection hx with hx; injection hx with hx1 hx2; subst hx1; subst hx2
    simp only [RV] at ha
    subst ha
    exact ⟨[], by simp [Builtin.lenOf], fun w' k _ _ => by simp [Builtin.firstCells], by simp [RVs]⟩
  case emp =>
    injection hx with hx; injection hx with hx1 hx2; subst hx1; subst hx2
    simp only [RV] at ha
    obtain ⟨a, cap, rfl⟩ := ha
    exact ⟨[], by simp [Builtin.lenOf], fun w' k _ hk => by obtain rfl : k = 0 := by omega
                                                            simp [Builtin.firstCells, loadCells, loadCellsFrom], by simp [RVs]⟩
  case psl cs len =>
    injection hx with hx; injection hx with hx1 hx2; subst hx1; subst hx2
    simp only [RV] at ha
    obtain ⟨a, cap, rfl, ha⟩ := ha
    rcases ha with ⟨rfl, rfl, _⟩ | ⟨_, blk, off, us, rfl, hz, hc, hrr⟩
    · exact ⟨[], by simp [Builtin.lenOf], fun w' k _ hk => by obtain rfl : k = 0 := by omega
                                                              cases a <;> simp [Builtin.firstCells, loadCells, loadCellsFrom], by simp [RVs]⟩
    · exact fin rfl (Reads.none ⟨us, hc, hrr⟩)
  case osl b off len =>
    split at hx
    · rename_i cs es fz hb
      split at hx
      · injection hx with hx; injection hx with hx1 hx2; subst hx1; subst hx2
        simp only [RV] at ha
        obtain ⟨mb, cap, hm, rfl, _⟩ := ha
        exact fin rfl ((hr.reads hb hm).cut off _)
      · cases hx
    · cases hx
theorem RVs_bytes (s : List UInt8) : RVs Z w (s.map fun b => AV.sc (.int .u8 b.toNat)) m (s.map fun b => Value.int .u8 b.toNat) := by
  induction s with
  | nil => simp [RVs]
  | cons b s ih =>
    simp only [List.map_cons, RVs]
    exact ⟨_, _, rfl, rfl, by simp [RV, plain], ih⟩
theorem source_sound (hr : HR C m Z h w) {a : AV} {v : Value} {xd : TypeDesc} {xs : List AV} {l size : Nat} (ha : RV Z w a m v)
    (hx : srcOf h xd a = some (xs, l)) (hl : xs.length = l * size) :
    (∀ k, xd ≠ .int k) ∧ ∃ us, (Builtin.lenOf v).run P w = .ok l w ∧ (∀ w' k, w'.heap = w.heap → k ≤ l → (Builtin.firstCells size k v).run P w' = .ok (us.take (k * size)).toArray w') ∧ RVs Z w xs m us := by
  cases xd <;> try (cases hx; done)
  case string =>
    cases a <;> try (cases hx; done)
    rename_i u
    cases u <;> try (cases hx; done)
    rename_i b
    injection hx with hx; injection hx with hx1 hx2; subst hx1; subst hx2
    simp only [RV] at ha
    obtain ⟨rfl, _⟩ := ha
    refine ⟨(fun k e => by cases e), b.data.toList.map (fun b => Value.int .u8 b.toNat), by simp [Builtin.lenOf], fun w' k _ hk => ?_, RVs_bytes _⟩
    have hbl : (byteCells b).length = b.size := by simp [byteCells]
    have hs : k * size = k := by
      rcases Nat.eq_zero_or_pos b.size with h | h
      · obtain rfl : k = 0 := by omega
        simp
      · have : size = 1 := by
          rw [hbl] at hl
          rcases Nat.lt_trichotomy size 1 with h1 | h1 | h1
          · obtain rfl : size = 0 := by omega
            rw [Nat.mul_zero] at hl; omega
          · exact h1
          · have : b.size * 2 ≤ b.size * size := Nat.mul_le_mul_left _ h1
            omega
        simp [this]
    simp only [Builtin.firstCells, ByteArray.data_extract, Sem.run_pure, hs]
    congr 1
    apply Array.ext'
    simp [List.extract]
  case slice e => exact ⟨(fun k e => by cases e), readSl_sound hr ha hx hl⟩
theorem source_all (hr : HR C m Z h w) {a : AV} {v : Value} {xd : TypeDesc} {xs : List AV} {l size : Nat} (ha : RV Z w a m v)
    (hx : srcOf h xd a = some (xs, l)) (hl : xs.length = l * size) :
    (∀ k, xd ≠ .int k) ∧ ∃ us, (Builtin.lenOf v).run P w = .ok l w ∧ (∀ w', w'.heap = w.heap → (Builtin.firstCells size l v).run P w' = .ok us.toArray w') ∧ RVs Z w xs m us := by
  obtain ⟨h1, us, h2, h3, h4⟩ := source_sound (P := P) hr ha hx hl
  refine ⟨h1, us, h2, fun w' hw => ?_, h4⟩
  rw [h3 w' l hw (Nat.le_refl _), List.take_of_length_le (by rw [RVs_len h4, hl]; exact Nat.le_refl _)]
end
end Go.Proofs.Bv
namespace Go.Proofs.Bv
open Go
section
variable {C : Cfg} {P : Program} {m m' : AMap} {Z Z' : Nat → Prop} {h h' : Heap} {n n' : Nat} {w w' : World}
theorem append_grow {t xt ty e sLen sCap l : Nat} {base : Option Addr} {i : TypeInfo} {z v : Value} {xd : TypeDesc} {olds news : List Value} (ht : P.underlying t = some (.slice e)) (hxt : P.underlying xt = some xd)
    (hxd : ∀ k, xd ≠ .int k) (hi : P.info? e = some i) (hz : i.zero = some z) (hl : ∀ w', (Builtin.lenOf v).run P w' = .ok l w') (hf : ∀ w', w'.heap = w.heap → (Builtin.firstCells i.size l v).run P w' = .ok news.toArray w')
    (ho : ∀ w', w'.heap = w.heap → (Builtin.firstCells i.size sLen (.slice base sLen sCap)).run P w' = .ok olds.toArray w')
    (hg : sCap < sLen + l) (h63 : ((sLen + l : Nat) : Int) ≤ 9223372036854775807) (hfit : Builtin.nextslicecap (sLen + l) sCap * i.bytes ≤ 281474976710656) :
    (Builtin.append_ #[t, xt] ty #[.slice base sLen sCap, v]).run P w = .ok (.slice (some ⟨w.heap.size, 0, none⟩) (sLen + l) (grownCap w (sLen + l) sCap e))
      (w.drew.alloc (.cells (olds ++ news ++ (Builtin.zeroCells z.cells (grownCap w (sLen + l) sCap e - (sLen + l))).toList).toArray e)) := by
  have hn : ¬ (sLen + l ≤ sCap) := by omega
  have h63' : ¬ (9223372036854775807 < ((sLen : Int) + (l : Int))) := by omega
  have h48' : ¬ (281474976710656 < Builtin.nextslicecap (sLen + l) sCap * i.bytes) := by omega
  have hzz : (match xd with | .int _ => true | _ => false) = false := by
    cases xd <;> first | rfl | exact absurd rfl (hxd _)
  have h1 := hf w.drew rfl
  have h2 := ho w.drew rfl
  simp [Builtin.append_, run_under ht, run_under hxt, hzz, sizeOf, typeInfo, zeroValue, hi, hz, hl, hn, h63', h48', Question.forced, h1, h2, newRow, grownCap]
  congr 2
  apply Array.ext'
  simp
theorem append_room {t xt ty e sLen sCap l : Nat} {base : Option Addr} {i : TypeInfo} {v : Value} {xd : TypeDesc} {news : List Value} (ht : P.underlying t = some (.slice e)) (hxt : P.underlying xt = some xd)
    (hxd : ∀ k, xd ≠ .int k) (hi : P.info? e = some i) (hl : ∀ w', (Builtin.lenOf v).run P w' = .ok l w') (hf : (Builtin.firstCells i.size l v).run P w = .ok news.toArray w)
    (hg : sLen + l ≤ sCap) (hs : (match base with | some a => storeCells (a.add (sLen * i.size)) news | none => pure ()).run P w = .ok () w') :
    (Builtin.append_ #[t, xt] ty #[.slice base sLen sCap, v]).run P w = .ok (.slice base (sLen + l) sCap) w' := by
  have hzz : (match xd with | .int _ => true | _ => false) = false := by
    cases xd <;> first | rfl | exact absurd rfl (hxd _)
  cases base with
  | none =>
    simp only [Sem.run_pure, Result.ok.injEq, true_and] at hs
    subst hs
    simp [Builtin.append_, run_under ht, run_under hxt, hzz, sizeOf, typeInfo, hi, hl, hg, hf]
  | some a => simp [Builtin.append_, run_under ht, run_under hxt, hzz, sizeOf, typeInfo, hi, hl, hg, hf, hs]
theorem lenOf_any {v : Value} {l : Nat} (hl : (Builtin.lenOf v).run P w = .ok l w) : ∀ w', (Builtin.lenOf v).run P w' = .ok l w' := by
  intro w'
  cases v <;> simp [Builtin.lenOf] at hl ⊢ <;> exact hl
theorem zeroCells_size (z : Array Value) (k : Nat) : (Builtin.zeroCells z k).size = k * z.size := by simp [Builtin.zeroCells]
theorem append_nil (hr : HR C m Z h w) (hn : m n = none) {t xt ty e l : Nat} {i : TypeInfo} {z v s : Value} {xd : TypeDesc} {a : AV} {xs : List AV} (ht : P.underlying t = some (.slice e)) (hxt : P.underlying xt = some xd)
    (hi : P.info? e = some i) (hz : i.zero = some z) (hzs : z.cells.size = i.size) (hs : RV Z w .nilS m s) (ha : RV Z w a m v)
    (hx : srcOf h xd a = some (xs, l)) (hl : xs.length = l * i.size) (hp : 0 < i.size)
    (hb : l * i.bytes ≤ 140737488355328) (h63 : l ≤ 140737488355328) :
    OpOk C m Z h n w (((do pure (.value (← Builtin.append_ #[t, xt] ty #[s, v])) : Sem Next)).run P w) (if l = 0 then .nilS else .osl n 0 l)
      (if l = 0 then h else upd h n (some (.cells xs i.size false))) (if l = 0 then n else n + 1) := by
  simp only [RV] at hs
  subst hs
  obtain ⟨hxd, us, h1, h2, h3⟩ := source_all (P := P) hr ha hx hl
  have hus := RVs_len h3
  by_cases h0 : l = 0
  · subst h0
    have hus0 : us = [] := List.eq_nil_of_length_eq_zero (by omega)
    subst hus0
    simp only [if_true]
    refine OpOk.same (u := .slice none 0 0) hr ?_ (by simp only [RV])
    have := append_room (P := P) (ty := ty) (sLen := 0) (sCap := 0) (base := none) (w := w) (w' := w) ht hxt hxd hi (lenOf_any h1) (h2 w rfl) (by omega) (by simp)
    simp [this]
  · simp only [if_neg h0]
    have hg := append_grow (P := P) (ty := ty) (base := none) (sLen := 0) (sCap := 0) (olds := []) ht hxt hxd hi hz (lenOf_any h1) h2 (fun w' _ => by simp [Builtin.firstCells]) (by omega) (by omega) (growslice_fits (by omega) (by simpa using hb))
    simp only [Nat.zero_add, List.nil_append] at hg
    have s1 : Step C m Z h n w m Z h n w.drew := Step.drawn hr _
    have h3' := s1.rvs hr h3
    have s2 := new_spare s1.hr hn (Builtin.zeroCells z.cells (grownCap w l 0 e - l)).toList e i.size h3'
    refine ⟨_, _, _, Z, .slice (some ⟨w.heap.size, 0, none⟩) l (grownCap w l 0 e), by simp [hg], .inl rfl, s1.trans s2, ?_⟩
    simp only [RV]
    have hge := grownCap_ge w l 0 e
    refine ⟨_, _, upd_same _ _ _, by simp, hge, ?_⟩
    simp only [List.length_append, Array.length_toList, zeroCells_size, hzs, hus, hl, Nat.zero_add]
    rw [← Nat.add_mul]
    exact Nat.mul_le_mul_right _ (by omega)
theorem upd_upd {α : Type} (f : Nat → α) (i : Nat) (x y : α) : upd (upd f i x) i y = upd f i y := by
  funext j
  by_cases hj : j = i
  · subst hj; simp [upd]
  · simp [upd, hj]
theorem append_own (hr : HR C m Z h w) (hn : m n = none) {t xt ty e l b off len : Nat} {i : TypeInfo} {z v s : Value} {xd : TypeDesc} {a : AV} {xs cs : List AV} (ht : P.underlying t = some (.slice e)) (hxt : P.underlying xt = some xd)
    (hi : P.info? e = some i) (hz : i.zero = some z) (hzs : z.cells.size = i.size) (hs : RV Z w (.osl b off len) m s) (ha : RV Z w a m v)
    (hx : srcOf h xd a = some (xs, l)) (hl : xs.length = l * i.size) (hp : 0 < i.size)
    (hh : h b = some (.cells cs i.size false)) (hfit : off + len * i.size ≤ cs.length) (hb : (len + l) * i.bytes ≤ 140737488355328) (h63 : len + l ≤ 140737488355328) :
    OpOk C m Z h n w (((do pure (.value (← Builtin.append_ #[t, xt] ty #[s, v])) : Sem Next)).run P w) (.osl n 0 (len + l)) (upd (upd h b none) n (some (.cells (cut cs off (len * i.size) ++ xs) i.size false))) (n + 1) := by
  obtain ⟨hxd, us, h1, h2, h3⟩ := source_all (P := P) hr ha hx hl
  have hus := RVs_len h3
  simp only [RV] at hs
  obtain ⟨mb, cap, hm, rfl, hlc, hcap⟩ := hs
  obtain ⟨mb', c, e', us0, g1, g2, g3, g4, g5, g6, g7⟩ := hr.cells b cs i.size false hh
  obtain rfl : mb = mb' := by rw [hm] at g1; injection g1
  have hz0 : ¬ Z mb.rb := fun e => by simpa using g7.2 e
  have hl0 : us0.length = cs.length := RVs_len g6
  have hpre : RVs Z w (cut cs off (len * i.size)) m ((us0.drop off).take (len * i.size)) := RVs_cut g6 _ _
  have hprel : ((us0.drop off).take (len * i.size)).length = len * i.size := by simp; omega
  have hbn : b ≠ n := fun e => by rw [e, hn] at hm; cases hm
  by_cases hroom : len + l ≤ cap
  · -- IN PLACE
    rw [g2] at hcap
    have hmul : (len + l) * i.size ≤ cap * i.size := Nat.mul_le_mul_right _ hroom
    rw [Nat.add_mul] at hmul
    have hbound : mb.base + (off + len * i.size) + us.length ≤ c.size := by rw [← g3]; omega
    have hrun := run_storeCells_at (P := P) mb.rb (mb.base + (off + len * i.size)) e' us 0 c w g4 (by simpa using hbound) (fun v hv => oneV_one (RVs_oneV h3 v hv))
    have hap := append_room (P := P) (ty := ty) (sLen := len) (sCap := cap) (base := some ⟨mb.rb, mb.base + off, none⟩) ht hxt hxd hi (lenOf_any h1) (h2 w rfl) hroom (by simp only [addr_add]; rw [Nat.add_assoc]; exact hrun)
    have s1 : Step C m Z h n w (upd m n (some ⟨mb.rb, mb.base + off, mb.top, mb.es⟩)) Z (upd (upd h b none) n (some (.cells (cut cs off (len * i.size)) i.size false))) (n + 1) w := by
      refine Step.move (mb2 := ⟨mb.rb, mb.base + off, mb.top, mb.es⟩) hr hh hm hn rfl rfl rfl fun c1 e1 us1 q1 q2 q3 => ?_
      refine ⟨(us1.drop off).take (len * i.size), fun j hj => ?_, RVs_cut q3 _ _⟩
      simp only [List.length_take, List.length_drop] at hj
      show c1[mb.base + off + j]? = _
      rw [Nat.add_assoc, q2 (off + j) (by omega), List.getElem?_take, if_pos (by omega), List.getElem?_drop]
    have h3' := s1.rvs hr h3
    have hpre' := s1.rvs hr hpre
    have s2 := Step.write (n := n + 1) (w' := w.setRow mb.rb (c.toList.take (mb.base + (off + len * i.size) + 0) ++ us ++ c.toList.drop (mb.base + (off + len * i.size) + 0 + us.length)).toArray) (bk' := .cells (cut cs off (len * i.size) ++ xs) i.size false) s1.hr (upd_same _ _ _) (upd_same _ _ _) hz0 (setRow_size _ _) (fun r hne => setRow_other w mb.rb r _ hne) rfl rfl rfl
      ⟨rfl, _, e', (us0.drop off).take (len * i.size) ++ us, setRow_heap w mb.rb c _ e' _ g4, g2, by simp; omega, ?_, RVs_append hpre' h3'⟩
    · rw [upd_upd] at s2
      refine ⟨_, _, _, Z, _, by simp [hap]; rfl, .inl rfl, s1.trans s2, ?_⟩
      simp only [RV]
      exact ⟨_, cap, upd_same _ _ _, rfl, hroom, by simp only [g2]; omega⟩
    · intro j hj
      simp only [List.length_append, hprel] at hj
      simp only [Nat.add_zero, List.getElem?_toArray]
      by_cases h5 : j < len * i.size
      · rw [List.append_assoc, List.getElem?_append_left (by simp; omega), List.getElem?_take, if_pos (by omega), List.getElem?_append_left (by omega), List.getElem?_take, if_pos h5, List.getElem?_drop]
        have := g5 (off + j) (by omega)
        rw [← this, Nat.add_assoc]
        simp
      · rw [List.append_assoc, List.getElem?_append_right (by simp; omega), List.getElem?_append_left (by simp; omega), List.getElem?_append_right (by omega)]
        congr 1
        simp
        omega
  · -- ANEW
    have hold : ∀ w', w'.heap = w.heap → (Builtin.firstCells i.size len (.slice (some ⟨mb.rb, mb.base + off, none⟩) len cap)).run P w' = .ok ((us0.drop off).take (len * i.size)).toArray w' := by
      intro w' hw
      refine run_firstCells_some (P := P) w' i.size len _ len cap _ hprel fun j u hj => ?_
      have hlt : j < len * i.size := by
        rcases Nat.lt_or_ge j (len * i.size) with h | h
        · exact h
        · rw [List.getElem?_eq_none (by omega)] at hj; cases hj
      rw [List.getElem?_take, if_pos hlt, List.getElem?_drop] at hj
      rw [addr_add, ← hj, ← g5 (off + j) (by omega)]
      simp only [World.cell?, hw, g4, Nat.add_assoc]
      rfl
    have hg := append_grow (P := P) (ty := ty) (sLen := len) (sCap := cap) (base := some ⟨mb.rb, mb.base + off, none⟩) ht hxt hxd hi hz (lenOf_any h1) h2 hold (by omega) (by omega) (growslice_fits (by omega) hb)
    have s0 : Step C m Z h n w m Z (upd h b none) n w := Step.drop hr b
    have s1 : Step C m Z (upd h b none) n w m Z (upd h b none) n w.drew := Step.drawn s0.hr _
    have s01 := s0.trans s1
    have h3' := s01.rvs hr (RVs_append hpre h3)
    have s2 := new_spare s1.hr hn (Builtin.zeroCells z.cells (grownCap w (len + l) cap e - (len + l))).toList e i.size h3'
    refine ⟨_, _, _, Z, .slice (some ⟨w.heap.size, 0, none⟩) (len + l) (grownCap w (len + l) cap e), by simp [hg], .inl rfl, s01.trans s2, ?_⟩
    simp only [RV]
    have hge := grownCap_ge w (len + l) cap e
    refine ⟨_, _, upd_same _ _ _, by simp, hge, ?_⟩
    simp only [List.length_append, Array.length_toList, zeroCells_size, hzs, hus, hl, hprel, Nat.zero_add]
    rw [← Nat.add_mul, ← Nat.add_mul]
    exact Nat.mul_le_mul_right _ (by omega)
theorem copy_own (hr : HR C m Z h w) {t xt ty e l b off len : Nat} {i : TypeInfo} {v s : Value} {xd : TypeDesc} {a : AV} {xs cs : List AV} (ht : P.underlying t = some (.slice e))
    (hi : P.info? e = some i) (hs : RV Z w (.osl b off len) m s) (ha : RV Z w a m v)
    (hx : srcOf h xd a = some (xs, l)) (hl : xs.length = l * i.size)
    (hh : h b = some (.cells cs i.size false)) (hfit : off + len * i.size ≤ cs.length) :
    OpOk C m Z h n w (((do pure (.value (← Builtin.copy_ #[t, xt] ty #[s, v])) : Sem Next)).run P w) (.sc (.int .i64 (min l len))) (upd h b (some (.cells (storeA cs off (xs.take (min l len * i.size))) i.size false))) n := by
  obtain ⟨hxd, us, h1, h2, h3⟩ := source_sound (P := P) hr ha hx hl
  have hus := RVs_len h3
  simp only [RV] at hs
  obtain ⟨mb, cap, hm, rfl, hlc, hcap⟩ := hs
  have h4 := h2 w (min l len) rfl (Nat.min_le_left _ _)
  have h5 := RVs_take h3 (min l len * i.size)
  have h6 : min l len * i.size ≤ len * i.size := Nat.mul_le_mul_right _ (Nat.min_le_right _ _)
  obtain ⟨w', h7, h8⟩ := write_sound (P := P) (n := n) (off := off) hr hh hm h5 (by simp; omega)
  refine ⟨_, w', m, Z, .int .i64 (min (l : Int) len), ?_, .inl rfl, h8, by simp [RV, plain]⟩
  have hsz : szOf P e = some i.size := by simp [szOf, hi]
  have hmin : Nat.min l len = min l len := rfl
  have hmc : ((min l len : Nat) : Int) = min (l : Int) len := by omega
  simp [Builtin.copy_, run_under ht, h1, run_szOf hsz, hmin, h4, h7, goInt, hmc]
end
end Go.Proofs.Bv
namespace Go.Proofs.Bv
open Go
section
variable {C : Cfg} {P : Program} {m m' : AMap} {Z Z' : Nat → Prop} {h h' : Heap} {n n' : Nat} {w w' : World}
theorem Step.closeUp (hr : HR C m Z h w) (o : Obj) : Step C m Z h n w m (fun r => Z r ∨ r = w.heap.size) h n { w with heap := w.heap.push o } := by
  have hk : ∀ r, Z r → ({ w with heap := w.heap.push o } : World).heap[r]? = w.heap[r]? := fun r e => push_old (hr.zlt r e)
  have hz : ∀ r, Z r → Z r ∨ r = w.heap.size := fun r e => .inl e
  have hne : ∀ {b o' mb}, h b = some o' → m b = some mb → mb.rb ≠ w.heap.size := fun e1 e2 e3 => by have := hr.lt e1 e2; omega
  refine ⟨⟨fun b cs es fz e => ?_, fun b L e => ?_, fun b1 b2 o1 o2 m1 m2 e1 e2 e3 e4 e5 hz' => hr.inj b1 b2 o1 o2 m1 m2 e1 e2 e3 e4 e5 (fun e => hz' (.inl e)), fun r e => ?_, fun g cs e => RV_mono hz hk _ (fun _ _ h => h) (hr.glob g cs e)⟩,
    fun _ _ e => e, fun _ e => .inl e, hz, fun r e => e.imp id fun e => .inl (by omega), Nat.le_refl _, by simp, fun r hr' _ => push_old hr', fun r hr' ⟨b, o', mb, e1, e2, e3, hz'⟩ => ⟨b, o', mb, e1, e2, e3, fun e => hz' (.inl e)⟩, rfl, rfl, rfl⟩
  · obtain ⟨mb, c, e', us, h1, h2, h3, h4, h5, h6, h7⟩ := hr.cells b cs es fz e
    refine ⟨mb, c, e', us, h1, h2, h3, by rw [← h4]; exact push_old (hr.lt e h1), h5, RVs_mono hz hk _ (fun _ _ h => h) h6, ?_⟩
    rw [h7]
    exact ⟨.inl, fun e' => e'.resolve_right (hne e h1)⟩
  · obtain ⟨mb, r, h1, h2, h3, h4, h5, h6, h7, h8⟩ := hr.loops b L e
    exact ⟨mb, r, h1, by rw [← h2]; exact push_old (hr.lt e h1), fun e' => e'.elim h3 (hne e h1), h4, h5, h6, RT_mono hz hk (fun _ _ h => h) h7, h8⟩
  · simp only [Array.size_push]
    rcases e with e | e
    · have := hr.zlt r e; omega
    · omega
theorem conv_string (hr : HR C m Z h w) {src dst e : Nat} {s : ByteArray} {x : Value} (hs : P.underlying src = some .string) (hd : P.underlying dst = some (.slice e)) (he : P.underlying e = some (.int .u8)) (hx : RV Z w (.sc (.string s)) m x) :
    OpOk C m Z h n w (((do pure (.value (← convert src dst x)) : Sem Next)).run P w) (.psl (byteCells s) s.size) h n := by
  simp only [RV] at hx
  obtain ⟨rfl, _⟩ := hx
  have hrun := run_bytes_of_string (P := P) w src dst e s hs hd he
  have s1 : Step C m Z h n w m Z h n w.drew := Step.drawn hr _
  refine ⟨.value (.slice (some ⟨w.heap.size, 0, none⟩) s.size (grownCap w s.size 0 e)), _, _, _, _, by rw [Sem.run_bind, hrun]; exact rfl, .inl rfl, s1.trans (Step.closeUp s1.hr _), ?_⟩
  simp only [RV]
  have hge := grownCap_ge w s.size 0 e
  refine ⟨_, _, rfl, .inr ⟨hge, w.heap.size, 0, s.data.toList.map (fun b => Value.int .u8 b.toNat), rfl, .inr rfl, fun i hi => ?_, RVs_bytes _⟩⟩
  simp only [List.length_map, Array.length_toList] at hi
  simp only [World.cell?, Nat.zero_add]
  have : (w.drew.heap.push (.cells (bytesRow s (grownCap w s.size 0 e)) e ((bytesRow s (grownCap w s.size 0 e)).size, (bytesRow s (grownCap w s.size 0 e)).size + 1)))[w.heap.size]? = some (.cells (bytesRow s (grownCap w s.size 0 e)) e ((bytesRow s (grownCap w s.size 0 e)).size, (bytesRow s (grownCap w s.size 0 e)).size + 1)) := push_new
  rw [this]
  simp only [bytesRow, Bool.false_eq_true, if_false, Option.isSome_none]
  rw [Array.getElem?_append_left (by simpa using hi)]
  simp
theorem bytesOf_sound : {cs : List AV} → {bs : List UInt8} → {us : List Value} → RVs Z w cs m us → bytesOf cs = some bs → us = (bs.map fun b => (b.toNat : Int)).map (Value.int .u8)
  | [], bs, us, hc, hb => by
    simp only [bytesOf, Option.some.injEq] at hb
    subst hb
    simpa only [RVs, List.map_nil] using hc
  | a :: l, bs, us, hc, hb => by
    simp only [bytesOf] at hb
    split at hb
    · rename_i b bs' e1 e2
      injection hb with hb; subst hb
      simp only [RVs] at hc
      obtain ⟨u, r, rfl, hone, h2, h3⟩ := hc
      clear hone
      have ih := bytesOf_sound h3 e2
      subst ih
      simp only [List.map_cons, List.cons.injEq, and_true]
      unfold byteOf at e1
      split at e1
      · rename_i k
        split at e1
        · rename_i hk
          injection e1 with e1; subst e1
          simp only [RV] at h2
          rw [h2.1]
          congr 1
          have : k.toNat < 256 := by omega
          simp [UInt8.toNat_ofNat', Nat.mod_eq_of_lt this]
          omega
        · cases e1
      · cases e1
    · cases hb
theorem conv_bytes (hr : HR C m Z h w) {src dst e l : Nat} {a : AV} {cs : List AV} {bs : List UInt8} {x : Value} (hs : P.underlying src = some (.slice e)) (hd : P.underlying dst = some .string) (he : P.underlying e = some (.int .u8))
    (hx : RV Z w a m x) (hc : readSl h a = some (cs, l)) (hl : cs.length = l) (hb : bytesOf cs = some bs) :
    OpOk C m Z h n w (((do pure (.value (← convert src dst x)) : Sem Next)).run P w) (.sc (.string ⟨bs.toArray⟩)) h n := by
  obtain ⟨us, h1, h2, h3⟩ := readSl_sound (P := P) (size := 1) hr hx hc (by omega)
  have h4 := bytesOf_sound h3 hb
  have h5 := RVs_len h3
  refine OpOk.same (u := .string ⟨bs.toArray⟩) hr ?_ (by simp [RV, plain])
  have h6 := h2 w l rfl (Nat.le_refl _)
  have key : (convert src dst x).run P w = .ok (.string ⟨bs.toArray⟩) w := by
    cases x <;> try (simp [Builtin.lenOf] at h1; done)
    case string s =>
      cases a <;> simp only [readSl] at hc <;> try (cases hc; done)
      all_goals simp only [RV] at hx
      · cases hx
      · obtain ⟨_, _, hx⟩ := hx; cases hx
      · obtain ⟨_, _, hx, _⟩ := hx; cases hx
      · obtain ⟨_, _, _, hx, _⟩ := hx; cases hx
    case slice b n' cap =>
      cases b with
      | none =>
        have : l = 0 := by
          simp [Builtin.firstCells] at h6
          rcases h6 with h6 | h6
          · exact h6
          · subst h6; simp at h5; omega
        have hbs : bs = [] := by
          subst this
          have : us = [] := List.eq_nil_of_length_eq_zero (by omega)
          subst this
          have h9 := congrArg List.length h4
          simp at h9
          exact List.eq_nil_of_length_eq_zero h9.symm
        subst hbs
        rw [run_convert_bytes_nil w src e hs he n' cap dst hd]
        rfl
      | some b =>
        have hn' : n' = l := by simpa [Builtin.lenOf] using h1
        subst hn'
        rw [run_convert_bytes_string w src dst e _ _ cap hs he hd]
        simp only [Builtin.firstCells, Nat.mul_one] at h6
        rw [List.take_of_length_le (by omega), h4] at h6
        rw [run_bytesToString w _ _ cap _ h6, foldl_push_bytes]
        congr 2
        simp only [ByteArray.mk.injEq, List.map_map]
        apply Array.ext'
        simp only [Array.toList_append, ByteArray.empty, ByteArray.emptyWithCapacity]
        show [] ++ _ = _
        rw [List.nil_append]
        conv => rhs; rw [← List.map_id bs]
        apply List.map_congr_left
        intro c _
        simp
  simp [key]
theorem exec_value {s : Sem Value} {f : Sem Next} (e : f = (do pure (.value (← s)) : Sem Next)) {v : AV} (hk : OpOk C m Z h n w (((do pure (.value (← s)) : Sem Next)).run P w) v h' n') : OpOk C m Z h n w (f.run P w) v h' n' := by
  rw [e]; exact hk
theorem toVals_sound : {as : List AV} → {us vs : List Value} → RVl Z w as m us → as.mapM toVal = some vs → us = vs
  | [], us, vs, ha, hv => by simp at hv; subst hv; simpa only [RVl] using ha
  | a :: l, us, vs, ha, hv => by
    simp only [List.mapM_cons, Option.bind_eq_bind, Option.pure_def] at hv
    cases h1 : toVal a with
    | none => simp [h1] at hv
    | some u =>
      cases h2 : l.mapM toVal with
      | none => simp [h1, h2] at hv
      | some ws =>
        simp only [h1, h2, Option.bind_some, Option.some.injEq] at hv
        subst hv
        simp only [RVl] at ha
        obtain ⟨u', r, rfl, h3, h4⟩ := ha
        rw [toVals_sound h4 h2, (RV_toVal h1 h3).1]
theorem RVl_map (ρ : Operand → AV) (ev : Operand → Value) (hρ : ∀ x, RV Z w (ρ x) m (ev x)) : (l : List Operand) → RVl Z w (l.map ρ) m (l.map ev)
  | [] => by simp [RVl]
  | x :: l => ⟨_, _, rfl, hρ x, RVl_map ρ ev hρ l⟩
theorem vbuiltin_sound (hr : HR C m Z h w) (hf : ∀ b, n ≤ b → b < n' → m b = none) {b : Builtin} {ts : List TypeId} {ty : TypeId} {consts : Array Bool} {args : List AV} {us : List Value} {v : AV} (ha : RVl Z w args m us)
    (hv : vbuiltin P b ts args h n = some (v, h', n')) : OpOk C m Z h n w ((builtin b ts.toArray ty consts us.toArray).run P w) v h' n' := by
  unfold vbuiltin at hv
  split at hv
  · -- len
    rename_i t x
    simp only [RVl] at ha
    obtain ⟨u, r, rfl, hx, rfl⟩ := ha
    split at hv <;> try (cases hv; done)
    · rename_i s hu
      injection hv with hv; injection hv with hv1 hv; injection hv with hv2 hv3; subst hv1; subst hv2; subst hv3
      simp only [RV] at hx
      obtain ⟨rfl, _⟩ := hx
      exact OpOk.same (u := .int .i64 s.size) hr (by simp [builtin, Builtin.len_, run_under hu, goInt]) (by simp [RV, plain])
    · rename_i e cs len hu
      injection hv with hv; injection hv with hv1 hv; injection hv with hv2 hv3; subst hv1; subst hv2; subst hv3
      simp only [RV] at hx
      obtain ⟨a, cap, rfl, _⟩ := hx
      exact OpOk.same (u := .int .i64 len) hr (by simp [builtin, Builtin.len_, run_under hu, goInt]) (by simp [RV, plain])
    · rename_i e b off len hu
      injection hv with hv; injection hv with hv1 hv; injection hv with hv2 hv3; subst hv1; subst hv2; subst hv3
      simp only [RV] at hx
      obtain ⟨mb, cap, _, rfl, _⟩ := hx
      exact OpOk.same (u := .int .i64 len) hr (by simp [builtin, Builtin.len_, run_under hu, goInt]) (by simp [RV, plain])
    · rename_i e hu
      injection hv with hv; injection hv with hv1 hv; injection hv with hv2 hv3; subst hv1; subst hv2; subst hv3
      simp only [RV] at hx
      subst hx
      exact OpOk.same (u := .int .i64 0) hr (by simp [builtin, Builtin.len_, run_under hu, goInt]) (by simp [RV, plain])
    · rename_i e hu
      injection hv with hv; injection hv with hv1 hv; injection hv with hv2 hv3; subst hv1; subst hv2; subst hv3
      simp only [RV] at hx
      obtain ⟨a, cap, rfl⟩ := hx
      exact OpOk.same (u := .int .i64 0) hr (by simp [builtin, Builtin.len_, run_under hu, goInt]) (by simp [RV, plain])
  · -- append
    rename_i t xt s x
    simp only [RVl] at ha
    obtain ⟨u, r, rfl, hs, u', r', rfl, hx, rfl⟩ := ha
    split at hv <;> try (cases hv; done)
    rename_i e xd hu hxu
    split at hv <;> try (cases hv; done)
    rename_i i xs l hi hsrc
    split at hv
    · cases hv
    · rename_i hno
      simp only [not_or, ne_eq, Decidable.not_not] at hno
      obtain ⟨h1, h2, h3⟩ := hno
      cases hz : i.zero with
      | none => simp [hz] at h3
      | some z =>
        simp only [hz, Option.map_some, Option.some.injEq] at h3
        split at hv
        · split at hv
          · rename_i hb
            by_cases h0 : l = 0
            · simp only [h0, if_true] at hv
              injection hv with hv; injection hv with hv1 hv; injection hv with hv2 hv3; subst hv1; subst hv2; subst hv3
              have hus : xs = [] := List.eq_nil_of_length_eq_zero (by rw [h2, h0]; simp)
              subst hus
              subst h0
              obtain ⟨hxd, us', q1, q2, q3⟩ := source_all (P := P) hr hx hsrc h2
              simp only [RVs] at q3
              subst q3
              simp only [RV] at hs
              subst hs
              refine OpOk.same (u := .slice none 0 0) hr ?_ (by simp only [RV])
              have := append_room (P := P) (ty := ty) (sLen := 0) (sCap := 0) (base := none) (w := w) (w' := w) hu hxu hxd hi (lenOf_any q1) (q2 w rfl) (by omega) (by simp)
              simp [builtin, this]
            · simp only [h0, if_false] at hv
              injection hv with hv; injection hv with hv1 hv; injection hv with hv2 hv3; subst hv1; subst hv2; subst hv3
              have := append_nil (C := C) (P := P) (n := n) (ty := ty) hr (hf n (Nat.le_refl _) (by omega)) hu hxu hi hz h3 hs hx hsrc h2 (by omega) hb.1 hb.2
              simp only [h0, if_false] at this
              exact this
          · cases hv
        · rename_i b off len
          split at hv <;> try (cases hv; done)
          rename_i cs es hh
          split at hv
          · rename_i hb
            obtain ⟨rfl, hb1, hb2, hb3⟩ := hb
            injection hv with hv; injection hv with hv1 hv; injection hv with hv2 hv3; subst hv1; subst hv2; subst hv3
            exact append_own (C := C) (P := P) (ty := ty) hr (hf n (Nat.le_refl _) (by omega)) hu hxu hi hz h3 hs hx hsrc h2 (by omega) hh hb1 hb2 hb3
          · cases hv
        · cases hv
  · -- copy
    rename_i t xt s x
    simp only [RVl] at ha
    obtain ⟨u, r, rfl, hs, u', r', rfl, hx, rfl⟩ := ha
    split at hv <;> try (cases hv; done)
    rename_i e xd b off len hu hxu
    split at hv <;> try (cases hv; done)
    rename_i i xs l cs es hi hsrc hh
    split at hv
    · rename_i hb
      obtain ⟨rfl, hb1, hb2⟩ := hb
      injection hv with hv; injection hv with hv1 hv; injection hv with hv2 hv3; subst hv1; subst hv2; subst hv3
      exact copy_own (C := C) (P := P) (ty := ty) hr hu hi hs hx hsrc hb1 hh hb2
    · cases hv
  · -- max
    simp only [Option.map_eq_some_iff, Option.bind_eq_some_iff] at hv
    obtain ⟨r, ⟨vs, h1, u, h2, h3⟩, hv⟩ := hv
    injection hv with hv1 hv; injection hv with hv2 hv3; subst hv1; subst hv2; subst hv3
    obtain rfl := toVals_sound ha h1
    refine OpOk.same (u := u) hr ?_ (RV_scal h3)
    have : (Builtin.max_ ts.toArray ty us.toArray).run P w = .ok u w := pureRun_run (P := P) h2
    simp [builtin, this]
  · -- min
    simp only [Option.map_eq_some_iff, Option.bind_eq_some_iff] at hv
    obtain ⟨r, ⟨vs, h1, u, h2, h3⟩, hv⟩ := hv
    injection hv with hv1 hv; injection hv with hv2 hv3; subst hv1; subst hv2; subst hv3
    obtain rfl := toVals_sound ha h1
    refine OpOk.same (u := u) hr ?_ (RV_scal h3)
    have : (Builtin.min_ ts.toArray ty us.toArray).run P w = .ok u w := pureRun_run (P := P) h2
    simp [builtin, this]
  · cases hv
end
end Go.Proofs.Bv
namespace Go.Proofs.Bv
open Go
section
variable {C : Cfg} {P : Program} {m m' : AMap} {Z Z' : Nat → Prop} {h h' : Heap} {n n' : Nat} {w w' : World}
theorem exec_build (ev : Operand → Value) (dst : Option Tmp) (t ty : TypeId) (parts : Array (Nat × Operand)) (pos : String) (after : Array Edge) (guard : Option (Nat × Bool)) :
    execOp ev ⟨dst, .build t parts, ty, pos, after, guard⟩ = (do pure (.value (← Instr.build t (parts.map fun p => (p.1, ev p.2)))) : Sem Next) := by
  rfl
theorem exec_buildSlice (ev : Operand → Value) (dst : Option Tmp) (t len ty : TypeId) (parts : Array (Nat × Operand)) (pos : String) (after : Array Edge) (guard : Option (Nat × Bool)) :
    execOp ev ⟨dst, .buildSlice t len parts, ty, pos, after, guard⟩ = (do pure (.value (← Instr.buildSlice t len (parts.map fun p => (p.1, ev p.2)))) : Sem Next) := by
  rfl
theorem storeA_length {cs vs : List AV} {off : Nat} (hf : off + vs.length ≤ cs.length) : (storeA cs off vs).length = cs.length := by simp [storeA]; omega
theorem fillA_length {place : Nat → Option (Nat × Nat)} : (ps : List (Nat × AV)) → {cs r : List AV} → fillA place cs ps = some r → r.length = cs.length
  | [], cs, r, hr => by simp only [fillA, Option.some.injEq] at hr; subst hr; rfl
  | (i, a) :: ps, cs, r, hr => by
    simp only [fillA] at hr
    split at hr
    · cases hr
    · split at hr
      · cases hr
      · rename_i hno
        simp only [not_or, ne_eq, Decidable.not_not, Nat.not_lt, gt_iff_lt] at hno
        rw [fillA_length ps hr, storeA_length (by omega)]
theorem out_inj {v v' : AV} {h h' : Heap} {n n' : Nat} (e : some (v, h, n) = some (v', h', n')) : v = v' ∧ h = h' ∧ n = n' := by
  injection e with e; injection e with e1 e; injection e with e2 e3; exact ⟨e1, e2, e3⟩
theorem vop_build (hr : HR C m Z h w) {ρ : Operand → AV} {ev : Operand → Value} (hρ : ∀ x, RV Z w (ρ x) m (ev x)) {dst : Option Tmp} {t ty : Nat} {parts : Array (Nat × Operand)} {pos : String} {after : Array Edge} {guard : Option (Nat × Bool)} {v : AV}
    (hv : vop P ρ h n (.build t parts) = some (v, h', n')) : OpOk C m Z h n w ((execOp ev ⟨dst, .build t parts, ty, pos, after, guard⟩).run P w) v h' n' := by
  simp only [vop] at hv
  rw [exec_build]
  have hq := parts_ok ρ ev hρ parts.toList
  have hq' : ∀ (i : Nat) (a : Nat × AV), (parts.toList.map fun p => (p.1, ρ p.2))[i]? = some a → ∃ v, (parts.map fun p => (p.1, ev p.2)).toList[i]? = some (a.1, v) ∧ RV Z w a.2 m v := by
    rw [Array.toList_map]; exact hq
  have hl : (parts.map fun p => (p.1, ev p.2)).size = (parts.toList.map fun p => (p.1, ρ p.2)).length := by rw [Array.size_map, List.length_map, Array.length_toList]
  split at hv <;> try (cases hv; done)
  · rename_i fs z hu hz
    split at hv <;> try (cases hv; done)
    rename_i places hp
    simp only [Option.map_eq_some_iff] at hv
    obtain ⟨cs, hc, hv⟩ := hv
    injection hv with e1 hv; injection hv with e2 e3; subst e1; subst e2; subst e3
    exact build_struct hr hu hz hp hq' hl hc
  · rename_i len e z hu hz
    split at hv <;> try (cases hv; done)
    rename_i s hs
    simp only [Option.map_eq_some_iff] at hv
    obtain ⟨cs, hc, hv⟩ := hv
    injection hv with e1 hv; injection hv with e2 e3; subst e1; subst e2; subst e3
    obtain ⟨u, _, h1, h2⟩ := zeroA_sound (w := w) (Z := Z) (m := m) hz
    obtain ⟨us, h3, h4⟩ := fill_sound _ (parts.map fun p => (p.1, ev p.2)).toList h2 (by rw [Array.length_toList]; exact hl) hq' hc
    refine OpOk.same (u := .agg us.toArray) hr ?_ (by simp only [RV]; exact ⟨us, rfl, h4⟩)
    have h5 : Instr.fill (fun i => some (i * s, s)) u.cells (parts.map fun p => (p.1, ev p.2)).toList = some us.toArray := h3
    simp only [Instr.build, Sem.run_bind, h1, Result.andThen_ok, run_under hu, run_szOf hs, h5, Sem.run_pure]
theorem vop_buildSlice (hr : HR C m Z h w) (hf : ∀ b, n ≤ b → b < n' → m b = none) {ρ : Operand → AV} {ev : Operand → Value} (hρ : ∀ x, RV Z w (ρ x) m (ev x)) {dst : Option Tmp} {t len ty : Nat} {parts : Array (Nat × Operand)} {pos : String} {after : Array Edge} {guard : Option (Nat × Bool)} {v : AV}
    (hv : vop P ρ h n (.buildSlice t len parts) = some (v, h', n')) : OpOk C m Z h n w ((execOp ev ⟨dst, .buildSlice t len parts, ty, pos, after, guard⟩).run P w) v h' n' := by
  simp only [vop] at hv
  split at hv <;> try (cases hv; done)
  rename_i e hu
  split at hv <;> try (cases hv; done)
  rename_i s z hs hz
  split at hv <;> try (cases hv; done)
  rename_i hb
  simp only [Option.map_eq_some_iff] at hv
  obtain ⟨cs, hc, hv⟩ := hv
  injection hv with e1 hv; injection hv with e2 e3; subst e1; subst e2; subst e3
  rw [exec_buildSlice]
  have hq := parts_ok ρ ev hρ parts.toList
  have hlen : cs.length = len * s := by rw [fillA_length _ hc, rep_length, hb.2.2]
  have hq' : ∀ (i : Nat) (a : Nat × AV), (parts.toList.map fun p => (p.1, ρ p.2))[i]? = some a → ∃ v, (parts.map fun p => (p.1, ev p.2)).toList[i]? = some (a.1, v) ∧ RV Z w a.2 m v := by
    rw [Array.toList_map]; exact hq
  have hl : (parts.map fun p => (p.1, ev p.2)).size = (parts.toList.map fun p => (p.1, ρ p.2)).length := by rw [Array.size_map, List.length_map, Array.length_toList]
  exact build_slice hr (hf n (Nat.le_refl _) (by omega)) hu hs hz hb.1 hb.2.1 hb.2.2 hq' hl hc hlen
set_option maxHeartbeats 1000000 in
theorem vop_sound (hr : HR C m Z h w) (hf : ∀ b, n ≤ b → b < n' → m b = none) {ρ : Operand → AV} {ev : Operand → Value} (hρ : ∀ x, RV Z w (ρ x) m (ev x)) {o : Oper} {v : AV}
    (hv : vop P ρ h n o.op = some (v, h', n')) : OpOk C m Z h n w ((execOp ev o).run P w) v h' n' := by
  obtain ⟨dst, op, ty, pos, after, guard⟩ := o
  dsimp only at hv
  cases op
  case build t parts => exact vop_build hr hρ hv
  case buildSlice t len parts => exact vop_buildSlice hr hf hρ hv
  all_goals simp only [vop] at hv
  all_goals try (cases hv; done)
  case move x =>
    obtain ⟨rfl, rfl, rfl⟩ := out_inj hv
    exact OpOk.same hr rfl (hρ x)
  case assign x =>
    obtain ⟨rfl, rfl, rfl⟩ := out_inj hv
    exact OpOk.same hr rfl (hρ x)
  case pick c a b =>
    split at hv <;> try (cases hv; done)
    rename_i t hc
    obtain ⟨rfl, rfl, rfl⟩ := out_inj hv
    have hx := hρ c
    rw [hc] at hx
    simp only [RV] at hx
    refine OpOk.same (u := if t then ev a else ev b) hr ?_ (by split <;> exact hρ _)
    simp [execOp, hx.1, asBool]
  case alloc e =>
    simp only [Option.map_eq_some_iff] at hv
    obtain ⟨z, hz, hv⟩ := hv
    injection hv with e1 hv; injection hv with e2 e3; subst e1; subst e2; subst e3
    exact alloc_sound hr (hf n (Nat.le_refl _) (by omega)) hz
  case box e x =>
    split at hv <;> try (cases hv; done)
    rename_i ho
    obtain ⟨rfl, rfl, rfl⟩ := out_inj hv
    exact box_sound hr (hf n (Nat.le_refl _) (by omega)) ho (hρ x)
  case load t x =>
    simp only [Option.map_eq_some_iff] at hv
    obtain ⟨a, ha, hv⟩ := hv
    injection hv with e1 hv; injection hv with e2 e3; subst e1; subst e2; subst e3
    obtain ⟨u, h1, h2⟩ := loadAt_sound hr (hρ x) ha
    exact OpOk.same hr (by simp [execOp, h1]) h2
  case store t x y =>
    split at hv <;> try (cases hv; done)
    rename_i b off s hx hs
    split at hv <;> try (cases hv; done)
    rename_i cs es hb
    split at hv <;> try (cases hv; done)
    rename_i hc
    obtain ⟨rfl, rfl, rfl⟩ := out_inj hv
    exact store_sound hr hs hb (by rw [← hx]; exact hρ x) (hρ y) hc.1 hc.2.1 hc.2.2
  case nilCheck x =>
    have hx := hρ x
    split at hv <;> try (cases hv; done)
    · rename_i b off hc
      obtain ⟨rfl, rfl, rfl⟩ := out_inj hv
      rw [hc] at hx
      have hx' := hx
      simp only [RV] at hx
      obtain ⟨mb, _, e⟩ := hx
      exact OpOk.same (u := ev x) hr (by simp [execOp, e]) hx'
    · rename_i cs off hc
      obtain ⟨rfl, rfl, rfl⟩ := out_inj hv
      rw [hc] at hx
      have hx' := hx
      simp only [RV] at hx
      obtain ⟨_, _, _, e, _⟩ := hx
      exact OpOk.same (u := ev x) hr (by simp [execOp, e]) hx'
    · rename_i f caps hc
      obtain ⟨rfl, rfl, rfl⟩ := out_inj hv
      rw [hc] at hx
      have hx' := hx
      simp only [RV] at hx
      obtain ⟨_, e, _⟩ := hx
      exact OpOk.same (u := ev x) hr (by simp [execOp, e]) hx'
  case binOp op t x y yt =>
    simp only [Option.map_eq_some_iff] at hv
    obtain ⟨a, ha, hv⟩ := hv
    injection hv with e1 hv; injection hv with e2 e3; subst e1; subst e2; subst e3
    obtain ⟨u, h1, h2⟩ := vbin_sound (hρ x) (hρ y) ha
    refine OpOk.same (u := u) hr ?_ h2
    show ((do pure (.value (← (do eqGuard op t x y (ev x) (ev y); Go.binOp op t (ev x) (ev y) : Sem Value))) : Sem Next)).run P w = _
    rw [Sem.run_bind, h1]
    rfl
  case unOp op t x =>
    simp only [Option.map_eq_some_iff, Option.bind_eq_some_iff] at hv
    obtain ⟨a, ⟨u, h1, r, h2, h3⟩, hv⟩ := hv
    injection hv with e1 hv; injection hv with e2 e3; subst e1; subst e2; subst e3
    obtain ⟨h4, _⟩ := RV_toVal h1 (hρ x)
    refine OpOk.same (u := r) hr ?_ (RV_scal h3)
    have h5 := pureRun_run (P := P) (w := w) h2
    simp [execOp, h4, h5]
  case convert src dst x =>
    have hx := hρ x
    split at hv
    · rename_i s hc
      rw [hc] at hx
      split at hv <;> try (cases hv; done)
      · rename_i h1 h2
        obtain ⟨rfl, rfl, rfl⟩ := out_inj hv
        have hx' := hx
        simp only [RV] at hx
        refine OpOk.same (u := ev x) hr ?_ hx'
        simp [execOp, hx.1, convert, run_under h1, run_under h2]
      · rename_i e h1 h2
        split at hv <;> try (cases hv; done)
        rename_i h3
        obtain ⟨rfl, rfl, rfl⟩ := out_inj hv
        exact conv_string hr h1 h2 h3 hx
    · rename_i u _ hc
      rw [hc] at hx
      simp only [Option.map_eq_some_iff, Option.bind_eq_some_iff] at hv
      obtain ⟨a, ⟨r, h2, h3⟩, hv⟩ := hv
      injection hv with e1 hv; injection hv with e2 e3; subst e1; subst e2; subst e3
      simp only [RV] at hx
      refine OpOk.same (u := r) hr ?_ (RV_scal h3)
      have h5 := pureRun_run (P := P) (w := w) h2
      simp [execOp, hx.1, h5]
    · split at hv <;> try (cases hv; done)
      rename_i e h1 h2
      split at hv <;> try (cases hv; done)
      rename_i cs l h3 h4
      split at hv <;> try (cases hv; done)
      rename_i hcl
      simp only [Option.map_eq_some_iff] at hv
      obtain ⟨bs, hb, hv⟩ := hv
      injection hv with e1 hv; injection hv with e2 e3; subst e1; subst e2; subst e3
      exact conv_bytes hr h1 h2 h3 hx h4 hcl hb
  case makeFunc f first caps =>
    split at hv <;> try (cases hv; done)
    rename_i h0
    split at hv <;> try (cases hv; done)
    obtain ⟨rfl, rfl, rfl⟩ := out_inj hv
    have h1 : first = #[] := Array.eq_empty_of_size_eq_zero h0
    subst h1
    refine OpOk.same (u := .func f #[] (caps.map ev)) hr (by simp [execOp, Instr.makeFunc]) ?_
    have h2 : RVl Z w (caps.toList.map ρ) m (caps.toList.map ev) := RVl_map ρ ev hρ _
    cases f <;> simp only [RV] <;> first | exact ⟨(caps.toList.map ev), congrArg _ (by apply Array.ext'; simp), h2⟩ | (rename_i hy; exact absurd rfl (hy _))
  case makeSlice t l c =>
    split at hv <;> try (cases hv; done)
    rename_i e l' c' hu hl hc
    split at hv <;> try (cases hv; done)
    rename_i i z hi hz
    split at hv <;> try (cases hv; done)
    rename_i hb
    obtain ⟨rfl, rfl, rfl⟩ := out_inj hv
    exact make_sound hr (hf n (Nat.le_refl _) (by omega)) hu hi hz (hρ l) (hρ c) hl hc hb.1 hb.2.1 hb.2.2.1 hb.2.2.2.1 hb.2.2.2.2
  case slice t x lo hi mx =>
    have hx := hρ x
    split at hv <;> try (cases hv; done)
    rename_i hmx
    have hmx' : mx.map ev = none := by cases mx <;> simp_all
    split at hv <;> try (cases hv; done)
    · rename_i s hu hc
      rw [hc] at hx
      simp only [Option.map_eq_some_iff] at hv
      obtain ⟨⟨l, u⟩, hb, hv⟩ := hv
      injection hv with e1 hv; injection hv with e2 e3; subst e1; subst e2; subst e3
      have := slice_string (C := C) (n := n) (P := P) hr hρ hu hx hb
      simpa only [execOp, hmx'] using this
    · rename_i e cs len hu hc
      rw [hc] at hx
      split at hv <;> try (cases hv; done)
      rename_i s l u hs hb
      obtain ⟨rfl, rfl, rfl⟩ := out_inj hv
      have := slice_psl (C := C) (n := n) (P := P) hr hρ hu hs hx hb
      simpa only [execOp, hmx'] using this
    · rename_i e b off len hu hc
      rw [hc] at hx
      split at hv <;> try (cases hv; done)
      rename_i s l u cs es fz hs hb hh
      split at hv <;> try (cases hv; done)
      rename_i hes
      subst hes
      have := slice_osl (C := C) (n := n) (P := P) hr hρ hu hs hx hb hh
      simp only [execOp, hmx']
      by_cases h0 : l = 0 ∨ l < u
      · simp only [if_pos h0] at hv this
        obtain ⟨rfl, rfl, rfl⟩ := out_inj hv
        exact this
      · simp only [if_neg h0] at hv this
        obtain ⟨rfl, rfl, rfl⟩ := out_inj hv
        exact this
    · rename_i e hu hc
      rw [hc] at hx
      split at hv <;> try (cases hv; done)
      rename_i s b hs hb
      obtain ⟨rfl, rfl, rfl⟩ := out_inj hv
      have := slice_nil (C := C) (n := n) (P := P) hr hρ hu hs hx (l := b.1) (u := b.2) hb
      simpa only [execOp, hmx'] using this
  case fieldAddr s x f =>
    have hx := hρ x
    split at hv <;> try (cases hv; done)
    rename_i fs hu
    split at hv <;> try (cases hv; done)
    rename_i fd hfd
    split at hv <;> try (cases hv; done)
    rename_i sz hs
    split at hv <;> try (cases hv; done)
    · rename_i b off hc
      obtain ⟨rfl, rfl, rfl⟩ := out_inj hv
      rw [hc] at hx
      exact fieldAddr_sound hr hu hfd hs hx rfl
    · rename_i cs off hc
      obtain ⟨rfl, rfl, rfl⟩ := out_inj hv
      rw [hc] at hx
      exact fieldAddr_sound hr hu hfd hs hx rfl
  case field s x f =>
    have hx := hρ x
    split at hv <;> try (cases hv; done)
    rename_i fs cs hu hc
    rw [hc] at hx
    split at hv <;> try (cases hv; done)
    rename_i fd hfd
    simp only [Option.map_eq_some_iff] at hv
    obtain ⟨a, ha, hv⟩ := hv
    injection hv with e1 hv; injection hv with e2 e3; subst e1; subst e2; subst e3
    exact field_sound hr hu hfd hx ha
  case indexAddr t x ix =>
    have hx := hρ x
    split at hv <;> try (cases hv; done)
    · rename_i i e hi hu
      split at hv <;> try (cases hv; done)
      · rename_i s cs len hs hc
        rw [hc] at hx
        split at hv <;> try (cases hv; done)
        rename_i hlt
        obtain ⟨rfl, rfl, rfl⟩ := out_inj hv
        exact indexAddr_slice hr hu hs hx (hρ ix) hi (by simp [hlt])
      · rename_i s b off len hs hc
        rw [hc] at hx
        split at hv <;> try (cases hv; done)
        rename_i hlt
        obtain ⟨rfl, rfl, rfl⟩ := out_inj hv
        exact indexAddr_slice hr hu hs hx (hρ ix) hi (by simp [hlt])
    · rename_i i len e hi hu
      split at hv <;> try (cases hv; done)
      · rename_i s b off hs hc
        rw [hc] at hx
        split at hv <;> try (cases hv; done)
        rename_i hlt
        obtain ⟨rfl, rfl, rfl⟩ := out_inj hv
        exact indexAddr_array hr hu hs hx (hρ ix) hi (by simp [hlt])
      · rename_i s cs off hs hc
        rw [hc] at hx
        split at hv <;> try (cases hv; done)
        rename_i hlt
        obtain ⟨rfl, rfl, rfl⟩ := out_inj hv
        exact indexAddr_array hr hu hs hx (hρ ix) hi (by simp [hlt])
  case index t x ix =>
    have hx := hρ x
    split at hv <;> try (cases hv; done)
    · rename_i i s hi hu hc
      rw [hc] at hx
      simp only [Option.map_eq_some_iff] at hv
      obtain ⟨c, hc', hv⟩ := hv
      injection hv with e1 hv; injection hv with e2 e3; subst e1; subst e2; subst e3
      exact index_string hr hu hx (hρ ix) hi hc'
    · rename_i i len e cs hi hu hc
      rw [hc] at hx
      split at hv <;> try (cases hv; done)
      rename_i s hs
      split at hv <;> try (cases hv; done)
      rename_i hlt
      simp only [Option.map_eq_some_iff] at hv
      obtain ⟨a, ha, hv⟩ := hv
      injection hv with e1 hv; injection hv with e2 e3; subst e1; subst e2; subst e3
      exact index_array hr hu hs hx (hρ ix) hi hlt ha
  case extract t i =>
    have hx := hρ t
    split at hv <;> try (cases hv; done)
    rename_i vs hc
    rw [hc] at hx
    simp only [Option.map_eq_some_iff] at hv
    obtain ⟨a, ha, hv⟩ := hv
    injection hv with e1 hv; injection hv with e2 e3; subst e1; subst e2; subst e3
    exact extract_sound hr hx ha
  case call c =>
    obtain ⟨callee, args, argTypes⟩ := c
    cases callee <;> simp only at hv <;> try (cases hv; done)
    rename_i b
    obtain ⟨consts, hcs⟩ : ∃ consts, execOp ev ⟨dst, .call ⟨.builtin b, args, argTypes⟩, ty, pos, after, guard⟩ = builtin b argTypes ty consts (args.map ev) := ⟨_, rfl⟩
    have := vbuiltin_sound (C := C) (P := P) (ty := ty) (consts := consts) hr hf (RVl_map ρ ev hρ args.toList) hv
    have e1 : argTypes.toList.toArray = argTypes := by simp
    have e2 : (args.toList.map ev).toArray = args.map ev := by
      apply Array.ext'
      simp
    rw [e1, e2] at this
    rw [hcs]
    exact this
end
end Go.Proofs.Bv
namespace Go.Proofs.Bv
open Go
abbrev Fw (r : Option Nat) : Fence := { Fence.wide with round := r }
def markOf (r : Nat) : Deferred := { target := .collected r, args := #[] }
def DI (w0 : Nat) (m : AMap) (Z : Nat → Prop) (h : Heap) (w : World) (ds : List Deferred) : Prop :=
  ∃ rs : List Nat, ds = rs.map markOf ∧ rs.Nodup ∧ ∀ r ∈ rs, w0 ≤ r ∧ r < w.heap.size ∧ w.heap[r]? = some (.deferred (some [])) ∧ ¬ Own Z h m r ∧ ¬ Z r
section
variable {C : Cfg} {m m' : AMap} {Z Z' : Nat → Prop} {h h' : Heap} {n n' nt w0 : Nat} {w w' : World}
theorem DI.step {ds : List Deferred} (d : DI w0 m Z h w ds) (s : Step C m Z h n w m' Z' h' n' w') : DI w0 m' Z' h' w' ds := by
  obtain ⟨rs, e, nd, hrs⟩ := d
  refine ⟨rs, e, nd, fun r hr => ?_⟩
  obtain ⟨h1, h2, h3, h4, h5⟩ := hrs r hr
  refine ⟨h1, Nat.lt_of_lt_of_le h2 s.size, by rw [s.frame r h2 h4]; exact h3, fun e => h4 (s.dom r h2 e), fun e => ?_⟩
  rcases s.znew r e with e | e | e
  · exact h5 e
  · omega
  · exact h4 e
def CallOk (C : Cfg) (call : CallF) : Prop :=
  ∀ (f : AV) (args : List AV) (h : Heap) (n : Nat) (v : AV) (h' : Heap) (n' : Nat), call f args h n = some (v, h', n') →
    ∀ (m : AMap) (Z : Nat → Prop) (w : World) (fv : Value) (us : List Value), HR C m Z h w → RV Z w f m fv → RVl Z w args m us → (∀ b, n ≤ b → b < n' → m b = none) → n ≤ n' →
    ∀ (r : Option Nat) (o : Oper) (a : Act) (next : Act → World → Prop) (Q : Exit → Act → World → Prop),
      (∀ u w' m' Z', Step C m Z h n w m' Z' h' n' w' → RV Z' w' v m' u → next (a.put o.dst u) w') →
      o.uponIn (Fw r) 0 C.P a next Q ((do let d ← Deferred.ofValue fv us.toArray; invoke d.target d.args : Sem Next).run C.P w)
theorem RT.put {T T' : Nat → AV} {a : Act} {dst : Option Tmp} {v : AV} {u : Value} (hT : RT Z w nt T m a.tmps) (hv : RV Z w v m u) (hp : putT nt T dst v = some T') : RT Z w nt T' m (a.put dst u).tmps := by
  unfold putT at hp
  cases dst with
  | none => simp only [Option.some.injEq] at hp; subst hp; exact hT
  | some d =>
    simp only at hp
    split at hp
    · rename_i hd
      injection hp with hp; subst hp
      refine ⟨by simp [Act.put, hT.1], fun t => ?_⟩
      by_cases ht : t = d
      · subst ht
        rw [upd_same]
        have : t < a.tmps.size := by rw [hT.1]; exact hd
        simpa [Act.put, Array.getD, this] using hv
      · rw [upd_ne _ _ ht]
        have h1 := hT.2 t
        have h2 : ((a.put (some d) u).tmps).getD t undef = a.tmps.getD t undef := by
          simp only [Act.put, Array.getD_eq_getD_getElem?]
          rw [Array.getElem?_setIfInBounds_ne (Ne.symm ht)]
        rw [h2]; exact h1
    · cases hp
theorem put_defers (a : Act) (dst : Option Tmp) (u : Value) : (a.put dst u).defers = a.defers := by cases dst <;> rfl
theorem val_sound (hr : HR C m Z h w) {T : Nat → AV} {a : Act} (hT : RT Z w nt T m a.tmps) (x : Operand) : RV Z w (val C T x) m (a.eval x) := by
  cases x with
  | tmp t => exact hT.2 t
  | const v => exact RV_ofV v
  | global g =>
    simp only [val, Act.eval]
    split
    · rename_i cs hg
      exact RV_mono (fun _ h => h) (fun _ _ => rfl) _ (fun b x e => by cases e) (hr.glob g cs hg)
    · simp only [RV]
  | func f => simp only [val, Act.eval, RV]; exact ⟨[], rfl, by simp [RVl]⟩
theorem goes_sound {T : Nat → AV} {a : Act} {ops : Array Oper} {o : Oper} {b : Bool} (hT : RT Z w nt T m a.tmps) (hg : goes ops T o = some b) (hd : ∀ j c d, o.guard = some (j, c) → (ops[j]?).bind (·.dst) = some d → d < nt) :
    Region.wanted o (yielded ops a.tmps) = b := by
  unfold goes at hg
  split at hg
  · rename_i hgd
    injection hg with hg; subst hg
    simp [Region.wanted, hgd]
  · rename_i j c hgd
    split at hg
    · rename_i c' hc
      injection hg with hg; subst hg
      simp only [Option.map_eq_some_iff] at hc
      obtain ⟨d, hd1, hd2⟩ := hc
      have hdl := hd j c d hgd hd1
      have h1 := hT.2 d
      rw [hd2] at h1
      simp only [RV] at h1
      have h2 : d < a.tmps.size := by rw [hT.1]; exact hdl
      have h3 : a.tmps[d]? = some (.bool c') := by
        rw [Array.getElem?_eq_getElem h2]
        have := h1.1
        simpa [Array.getD, h2] using this
      simp only [Region.wanted, hgd, yielded, hd1, Option.bind_some, h3]
      cases c <;> cases c' <;> rfl
    · rename_i hc
      injection hg with hg; subst hg
      simp only [Option.map_eq_some_iff] at hc
      obtain ⟨d, hd1, hd2⟩ := hc
      have hdl := hd j c d hgd hd1
      have h1 := hT.2 d
      rw [hd2] at h1
      simp only [RV, RVl] at h1
      obtain ⟨us, h1, rfl⟩ := h1
      have h2 : d < a.tmps.size := by rw [hT.1]; exact hdl
      have h3 : a.tmps[d]? = some (.tuple #[]) := by
        rw [Array.getElem?_eq_getElem h2]
        simpa [Array.getD, h2] using h1
      simp only [Region.wanted, hgd, yielded, hd1, Option.bind_some, h3]
      rfl
    · cases hg
theorem vops_mono {call : CallF} {ops : Array Oper} : (l : List Oper) → {s s' : St} → vops C call nt ops l s = some s' → s.n ≤ s'.n
  | [], s, s', hv => by simp only [vops, Option.some.injEq] at hv; subst hv; exact Nat.le_refl _
  | o :: l, s, s', hv => by
    simp only [vops] at hv
    split at hv
    · split at hv
      · split at hv
        · rename_i hle
          simp only [Option.bind_eq_some_iff] at hv
          obtain ⟨T, _, hv⟩ := hv
          have := vops_mono l hv
          exact Nat.le_trans hle this
        · cases hv
      · cases hv
    · simp only [Option.bind_eq_some_iff] at hv
      obtain ⟨T, _, hv⟩ := hv
      have := vops_mono l hv
      exact this
    · cases hv
theorem vstep_sound {call : CallF} (hcall : CallOk C call) (hr : HR C m Z h w) (hf : ∀ b, n ≤ b → b < n' → m b = none) (hle : n ≤ n') {ρ : Operand → AV} {a : Act} (hρ : ∀ x, RV Z w (ρ x) m (a.eval x)) {o : Oper} {v : AV}
    (hv : vstep C call ρ h n o.op = some (v, h', n')) (r : Option Nat) (next : Act → World → Prop) (Q : Exit → Act → World → Prop)
    (hn : ∀ u w' m' Z', Step C m Z h n w m' Z' h' n' w' → RV Z' w' v m' u → next (a.put o.dst u) w') : o.wpIn (Fw r) 0 C.P a w next Q := by
  refine ⟨fun _ _ => trivial, ?_⟩
  have hnd : ∀ c, o.op ≠ .defer c := by
    intro c e
    rw [e] at hv
    simp [vstep, vop] at hv
  rw [Oper.semAt_eq _ _ _ hnd]
  unfold vstep at hv
  split at hv
  · rename_i f args ts hop
    have h1 := hcall _ _ _ _ _ _ _ hv m Z w (a.eval f) (args.toList.map a.eval) hr (hρ f) (RVl_map ρ a.eval hρ args.toList) hf hle r o a next Q hn
    have e1 : (args.toList.map a.eval).toArray = args.map a.eval := by
      apply Array.ext'
      simp
    rw [e1] at h1
    have e2 : execOp a.eval o = (do let d ← Deferred.ofValue (a.eval f) (args.map a.eval); invoke d.target d.args : Sem Next) := by
      obtain ⟨dst, op, ty, pos, after, guard⟩ := o
      simp only at hop
      subst hop
      rfl
    rw [e2]
    exact h1
  · obtain ⟨nx, w', m', Z', u, h1, h2, h3, h4⟩ := vop_sound hr hf hρ hv
    rw [h1]
    rcases h2 with rfl | ⟨rfl, rfl⟩
    · exact hn u w' m' Z' h3 h4
    · exact hn undef w' m' Z' h3 h4
def dstsOk (nt : Nat) (ops : Array Oper) : Prop := ∀ (j d : Nat), (ops[j]?).bind (·.dst) = some d → d < nt
theorem vops_sound {call : CallF} (hcall : CallOk C call) {ops : Array Oper} (hds : dstsOk nt ops) (r : Option Nat) (Q : Exit → Act → World → Prop) : (l : List Oper) → {s s' : St} → (i : Nat) → ops.toList.drop i = l → vops C call nt ops l s = some s' →
    ∀ {m Z a w}, HR C m Z s.h w → RT Z w nt s.T m a.tmps → DI w0 m Z s.h w a.defers → (∀ b, s.n ≤ b → b < s'.n → m b = none) →
    (∀ a' w' m' Z', Step C m Z s.h s.n w m' Z' s'.h s'.n w' → RT Z' w' nt s'.T m' a'.tmps → DI w0 m' Z' s'.h w' a'.defers → Q .normal a' w') →
    wpOpsIn (Fw r) 0 C.P ops Q ((List.range' i (ops.size - i))) a w
  | [], s, s', i, hl, hv, m, Z, a, w, hr, hT, hD, hf, hQ => by
    simp only [vops, Option.some.injEq] at hv
    subst hv
    have hi : ops.size ≤ i := by
      have := congrArg List.length hl
      simp at this
      omega
    have : ops.size - i = 0 := by omega
    rw [this]
    exact hQ a w m Z (Step.refl hr) hT hD
  | o :: l, s, s', i, hl, hv, m, Z, a, w, hr, hT, hD, hf, hQ => by
    have hlt : i < ops.size := by
      rcases Nat.lt_or_ge i ops.size with h | h
      · exact h
      · rw [List.drop_eq_nil_of_le (by simpa using h)] at hl; cases hl
    have ho : ops[i]? = some o := by
      have := congrArg List.head? hl
      simp only [List.head?_drop, List.head?_cons] at this
      simpa using this
    have hl' : ops.toList.drop (i + 1) = l := by
      have := congrArg List.tail hl
      simpa using this
    have hrange : List.range' i (ops.size - i) = i :: List.range' (i + 1) (ops.size - (i + 1)) := by
      rw [show ops.size - i = (ops.size - (i + 1)) + 1 from by omega, List.range'_succ]
    rw [hrange]
    simp only [vops] at hv
    simp only [wpOpsIn, ho]
    have hgd : ∀ j c d, o.guard = some (j, c) → (ops[j]?).bind (·.dst) = some d → d < nt := fun j c d _ hd => hds j d hd
    split at hv
    · rename_i hg
      rw [goes_sound hT hg hgd, if_pos rfl]
      split at hv
      · rename_i v h1 n1 hvs
        split at hv
        · rename_i hle
          simp only [Option.bind_eq_some_iff] at hv
          obtain ⟨T, hp, hv⟩ := hv
          have hle2 := vops_mono l hv
          refine vstep_sound hcall hr (fun b hb1 hb2 => hf b hb1 (Nat.lt_of_lt_of_le hb2 hle2)) hle (val_sound hr hT) hvs r _ _ fun u w1 m1 Z1 s1 hu => ?_
          have hT1 := (s1.rt hr hT).put hu hp
          have hD1 : DI w0 m1 Z1 h1 w1 (a.put o.dst u).defers := by rw [put_defers]; exact hD.step s1
          exact vops_sound hcall hds r Q l (i + 1) hl' hv s1.hr hT1 hD1 (s1.fresh hf) fun a' w' m' Z' s2 => hQ a' w' m' Z' (s1.trans s2)
        · cases hv
      · cases hv
    · rename_i hg
      rw [goes_sound hT hg hgd]
      simp only [Bool.false_eq_true, if_false]
      simp only [Option.bind_eq_some_iff] at hv
      obtain ⟨T, hp, hv⟩ := hv
      refine ⟨fun _ _ => trivial, ?_⟩
      have hT1 := hT.put (u := undef) (v := .tup []) (by simp only [RV, RVl]; exact ⟨[], rfl, rfl⟩) hp
      have hD1 : DI w0 m Z s.h w (a.put o.dst undef).defers := by rw [put_defers]; exact hD
      exact vops_sound hcall hds r Q l (i + 1) hl' hv hr hT1 hD1 hf hQ
    · cases hv
def DrOk (C : Cfg) (dr : Nat → Array Oper → St → Option St) : Prop :=
  (∀ nt ops s s', dr nt ops s = some s' → s.n ≤ s'.n) ∧
  ∀ (nt : Nat) (ops : Array Oper) (s s' : St), dr nt ops s = some s' → dstsOk nt ops → ∀ (id : Nat) (r : Option Nat) (Q : Exit → Act → World → Prop) (m : AMap) (Z : Nat → Prop) (a : Act) (w : World),
    HR C m Z s.h w → RT Z w nt s.T m a.tmps → (∀ b, s.n ≤ b → b < s'.n → m b = none) →
    (∀ a' w' m' Z', Step C m Z s.h s.n w m' Z' s'.h s'.n w' → RT Z' w' nt s'.T m' a'.tmps → a'.defers = a.defers → Q .normal a' w') →
    (Code.region id ops true).wpIn (Fw r) 0 C.P Q a w
def exOf : Ex → Exit
  | .norm => .normal
  | .exit id => .exit id
  | .ret => .ret
theorem dstsOk_of {id : Nat} {ops : Array Oper} {d : Bool} (h : codeOk nt (.region id ops d) = true) : dstsOk nt ops := by
  intro j d hd
  simp only [Option.bind_eq_some_iff] at hd
  obtain ⟨o, ho, hd⟩ := hd
  simp only [codeOk, Array.all_eq_true_iff_forall_mem] at h
  have := h o (Array.mem_of_getElem? ho)
  simpa [hd] using this
theorem iter_mono {f : St → Option (Ex × St)} (hf : ∀ s e s', f s = some (e, s') → s.n ≤ s'.n) : (k : Nat) → {s : St} → {e : Ex} → {s' : St} → iter f k s = some (e, s') → s.n ≤ s'.n
  | 0, _, _, _, hv => by simp [iter] at hv
  | k + 1, s, e, s', hv => by
    simp only [iter] at hv
    split at hv
    · rename_i s1 h1
      exact Nat.le_trans (hf _ _ _ h1) (iter_mono hf k hv)
    · exact hf _ _ _ hv
theorem vcode_mono {call : CallF} {fc : FcF} {dr : Nat → Array Oper → St → Option St} (hdr : ∀ nt ops s s', dr nt ops s = some s' → s.n ≤ s'.n) {k : Nat} {rd : Bool} : (c : Code) → {s : St} → {e : Ex} → {s' : St} → vcode C call fc dr k nt rd c s = some (e, s') → s.n ≤ s'.n
  | .skip, s, e, s', hv | .label _, s, e, s', hv => by
    simp only [vcode, Option.some.injEq, Prod.mk.injEq] at hv; rw [hv.2]; exact Nat.le_refl _
  | .region _ ops d, s, e, s', hv => by
    simp only [vcode, Option.map_eq_some_iff] at hv
    obtain ⟨s1, h1, h2⟩ := hv
    injection h2 with _ h2; subst h2
    split at h1
    · exact hdr _ _ _ _ h1
    · exact vops_mono _ h1
  | .seq a b, s, e, s', hv => by
    simp only [vcode] at hv
    split at hv
    · rename_i s1 h1
      exact Nat.le_trans (vcode_mono hdr a h1) (vcode_mono hdr b hv)
    · exact vcode_mono hdr a hv
  | .cond c a b, s, e, s', hv => by
    simp only [vcode] at hv
    split at hv
    · split at hv
      · exact vcode_mono hdr a hv
      · exact vcode_mono hdr b hv
    · cases hv
  | .block id c, s, e, s', hv => by
    simp only [vcode] at hv
    split at hv
    · rename_i j s1 h1
      injection hv with hv; injection hv with _ hv; subst hv
      exact vcode_mono hdr c h1
    · exact vcode_mono hdr c hv
  | .loop c, s, e, s', hv => by
    simp only [vcode] at hv
    exact iter_mono (fun s e s' h => vcode_mono hdr c h) k hv
  | .exit id, s, e, s', hv | .ret, s, e, s', hv => by
    simp only [vcode, Option.some.injEq, Prod.mk.injEq] at hv; rw [hv.2]; exact Nat.le_refl _
  | .rangeFunc g ps as body, s, e, s', hv => by
    simp only [vcode] at hv
    split at hv
    · cases hv
    · split at hv
      · rename_i v h n hc
        split at hv
        · cases hv
        · split at hv
          · split at hv <;> first | (cases hv; done) | (injection hv with hv; injection hv with _ hv; subst hv; simp only; omega)
          · cases hv
      · cases hv
  | .scope _, _, _, _, hv | .goto _, _, _, _, hv | .refuse _, _, _, _, hv => by simp [vcode] at hv
end
end Go.Proofs.Bv
namespace Go.Proofs.Bv
open Go
section
variable {C : Cfg} {m m' : AMap} {Z Z' : Nat → Prop} {h h' : Heap} {n n' nt w0 : Nat} {w w' : World}
def FcOk (C : Cfg) (fc : FcF) : Prop :=
  ∀ (f : FuncId) (args : List AV) (h : Heap) (n : Nat) (v : AV) (h' : Heap) (n' : Nat), fc f args h n = some (v, h', n') → n ≤ n' →
    ∀ (m : AMap) (Z : Nat → Prop) (w : World) (us : List Value), HR C m Z h w → RVl Z w args m us → (∀ b, n ≤ b → b < n' → m b = none) →
    (callFunc f us.toArray).run C.P w = .ok (.enter f us.toArray) w ∧
    CallsIn Fence.wide 0 C.P f us.toArray w fun e w' => ∃ u m' Z', e = .returned u ∧ Step C m Z h n w m' Z' h' n' w' ∧ RV Z' w' v m' u
theorem Step.giveUp (hr : HR C m Z h w) {b : Nat} {mb : MB} {bk : Blk} (hb : h b = some bk) (hm : m b = some mb) (hz : ¬ Z mb.rb)
    (hsize : w'.heap.size = w.heap.size) (hoth : ∀ r, r ≠ mb.rb → w'.heap[r]? = w.heap[r]?) (ho : w'.os = w.os) (ht : w'.tape = w.tape) (hu : w'.output = w.output) :
    Step C m Z h n w m Z (upd h b none) n w' := by
  have hk : ∀ r, Z r → w'.heap[r]? = w.heap[r]? := fun r e => hoth r fun e' => hz (e' ▸ e)
  have old : ∀ {b' o}, upd h b none b' = some o → b' ≠ b ∧ h b' = some o := by
    intro b' o e
    by_cases hi : b' = b
    · subst hi; rw [upd_same] at e; cases e
    · rw [upd_ne _ _ hi] at e; exact ⟨hi, e⟩
  have hdiff : ∀ b' o mb', b' ≠ b → h b' = some o → m b' = some mb' → mb'.rb ≠ mb.rb := fun b' o mb' hne e1 e2 e3 => hne (hr.inj b b' bk o mb mb' hb e1 hm e2 e3.symm hz).symm
  refine ⟨⟨fun b' cs es fz e => ?_, fun b' L e => ?_, fun b1 b2 o1 o2 m1 m2 e1 e2 => hr.inj b1 b2 o1 o2 m1 m2 (old e1).2 (old e2).2, fun r e => by rw [hsize]; exact hr.zlt r e, fun g cs e => RV_mono (fun _ h => h) hk _ (fun _ _ h => h) (hr.glob g cs e)⟩,
    fun _ _ e => e, fun _ e => .inl e, fun _ e => e, fun _ e => .inl e, Nat.le_refl _, Nat.le_of_eq hsize.symm, fun r hr' hno => hoth r fun e => hno ⟨b, bk, mb, hb, hm, e.symm, e ▸ hz⟩, fun r hr' ⟨b', o, mb', e1, e2, e3, hz'⟩ => ⟨b', o, mb', (old e1).2, e2, e3, hz'⟩, ho, ht, hu⟩
  · obtain ⟨hi, e⟩ := old e
    obtain ⟨mb', c, e', us, h1, h2, h3, h4, h5, h6, h7⟩ := hr.cells b' cs es fz e
    exact ⟨mb', c, e', us, h1, h2, h3, by rw [← h4]; exact hoth _ (hdiff b' _ mb' hi e h1), h5, RVs_mono (fun _ h => h) hk _ (fun _ _ h => h) h6, h7⟩
  · obtain ⟨hi, e⟩ := old e
    obtain ⟨mb', r, h1, h2, h3, h4, h5, h6, h7, h8⟩ := hr.loops b' L e
    exact ⟨mb', r, h1, by rw [← h2]; exact hoth _ (hdiff b' _ mb' hi e h1), h3, h4, h5, h6, RT_mono (fun _ h => h) hk (fun _ _ h => h) h7, h8⟩
theorem Step.aside (hr : HR C m Z h w) (o : Obj) : Step C m Z h n w m Z h n { w with heap := w.heap.push o } := by
  have hk : ∀ r, Z r → ({ w with heap := w.heap.push o } : World).heap[r]? = w.heap[r]? := fun r e => push_old (hr.zlt r e)
  refine ⟨⟨fun b cs es fz e => ?_, fun b L e => ?_, hr.inj, fun r e => by have := hr.zlt r e; simp only [Array.size_push]; omega, fun g cs e => RV_mono (fun _ h => h) hk _ (fun _ _ h => h) (hr.glob g cs e)⟩,
    fun _ _ e => e, fun _ e => .inl e, fun _ e => e, fun _ e => .inl e, Nat.le_refl _, by simp, fun r hr' _ => push_old hr', fun r hr' e => e, rfl, rfl, rfl⟩
  · obtain ⟨mb, c, e', us, h1, h2, h3, h4, h5, h6, h7⟩ := hr.cells b cs es fz e
    exact ⟨mb, c, e', us, h1, h2, h3, by rw [← h4]; exact push_old (hr.lt e h1), h5, RVs_mono (fun _ h => h) hk _ (fun _ _ h => h) h6, h7⟩
  · obtain ⟨mb, r, h1, h2, h3, h4, h5, h6, h7, h8⟩ := hr.loops b L e
    exact ⟨mb, r, h1, by rw [← h2]; exact push_old (hr.lt e h1), h3, h4, h5, h6, RT_mono (fun _ h => h) hk (fun _ _ h => h) h7, h8⟩
theorem DI.push {m : AMap} {Z : Nat → Prop} {h : Heap} {w : World} {ds : List Deferred} (hr : HR C m Z h w) (d : DI w0 m Z h w ds) (hw : w0 ≤ w.heap.size) : DI w0 m Z h { w with heap := w.heap.push (.deferred (some [])) } (markOf w.heap.size :: ds) := by
  obtain ⟨rs, e, nd, hrs⟩ := d
  refine ⟨w.heap.size :: rs, by rw [e]; rfl, List.nodup_cons.2 ⟨fun hm => by have := (hrs _ hm).2.1; omega, nd⟩, fun r hr' => ?_⟩
  rcases List.mem_cons.1 hr' with rfl | hr'
  · refine ⟨hw, by simp, push_new, fun ⟨b, o, mb, e1, e2, e3, _⟩ => ?_, fun e => Nat.lt_irrefl _ (hr.zlt _ e)⟩
    have := hr.lt e1 e2
    omega
  · obtain ⟨h1, h2, h3, h4, h5⟩ := hrs r hr'
    exact ⟨h1, by simp; omega, by rw [← h3]; exact push_old h2, h4, h5⟩
theorem loop_sound (r : Option Nat) (Q : Exit → Act → World → Prop) {c : Code} {f : St → Option (Ex × St)} (hmono : ∀ s e s', f s = some (e, s') → s.n ≤ s'.n)
    (hf : ∀ {s e s' m Z a w}, f s = some (e, s') → ∀ Q' : Exit → Act → World → Prop, HR C m Z s.h w → RT Z w nt s.T m a.tmps → DI w0 m Z s.h w a.defers → w0 ≤ w.heap.size → (∀ b, s.n ≤ b → b < s'.n → m b = none) →
      (∀ a' w' m' Z', Step C m Z s.h s.n w m' Z' s'.h s'.n w' → RT Z' w' nt s'.T m' a'.tmps → DI w0 m' Z' s'.h w' a'.defers → Q' (exOf e) a' w') → c.wpIn (Fw r) 0 C.P Q' a w) :
    (j : Nat) → {s : St} → {e : Ex} → {s' : St} → iter f j s = some (e, s') → ∀ {m Z a w}, HR C m Z s.h w → RT Z w nt s.T m a.tmps → DI w0 m Z s.h w a.defers → w0 ≤ w.heap.size → (∀ b, s.n ≤ b → b < s'.n → m b = none) →
    (∀ a' w' m' Z', Step C m Z s.h s.n w m' Z' s'.h s'.n w' → RT Z' w' nt s'.T m' a'.tmps → DI w0 m' Z' s'.h w' a'.defers → Q (exOf e) a' w') → Code.roundsIn (Fw r) 0 C.P c Q j a w
  | 0, s, e, s', hv, _, _, _, _, _, _, _, _, _, _ => by simp [iter] at hv
  | j + 1, s, e, s', hv, m, Z, a, w, hr, hT, hD, hw, hfr, hQ => by
    simp only [iter] at hv
    rw [roundsIn_succ]
    split at hv
    · rename_i s1 h1
      have hle := iter_mono hmono j hv
      refine hf h1 _ hr hT hD hw (fun b hb1 hb2 => hfr b hb1 (Nat.lt_of_lt_of_le hb2 hle)) fun a1 w1 m1 Z1 s1' hT1 hD1 => ?_
      exact loop_sound r Q hmono hf j hv s1'.hr hT1 hD1 (Nat.le_trans hw s1'.size) (s1'.fresh hfr) fun a' w' m' Z' s2 => hQ a' w' m' Z' (s1'.trans s2)
    · rename_i hno
      refine hf hv _ hr hT hD hw hfr fun a1 w1 m1 Z1 s1' hT1 hD1 => ?_
      cases e with
      | norm => exact absurd hv (hno _)
      | exit id => exact hQ a1 w1 m1 Z1 s1' hT1 hD1
      | ret => exact hQ a1 w1 m1 Z1 s1' hT1 hD1
theorem run_enterLoop (fn : FuncId) (tmps : Array Value) (ps : Array Tmp) (as body : Code) (P : Program) :
    (Instr.enterLoop fn tmps ps as body none).run P w = .ok (w.heap.size + 1, [markOf w.heap.size])
      { ({ w with heap := w.heap.push (.deferred (some [])) } : World) with heap := (w.heap.push (.deferred (some []))).push (.loop { state := .ready, pending := none, fn, tmps, params := ps, assign := as, body, defers := w.heap.size }) } := by
  simp [Instr.enterLoop, newObj, Sem.run, markOf]
  rfl
theorem run_endLoop {P : Program} {l : Nat} {r : Loop} (hl : w.heap[l]? = some (.loop r)) (hs : r.state ≠ .busy) :
    (Instr.endLoop l).run P w = .ok r.pending { w with heap := w.heap.setIfInBounds l (.loop { r with state := .exhausted }) } := by
  simp [Instr.endLoop, Instr.getLoop, getObj, setObj, Sem.run, hl]
  exact fun h => absurd h hs
theorem heap_set_size (o : Obj) (l : Nat) : ({ w with heap := w.heap.setIfInBounds l o } : World).heap.size = w.heap.size := by simp
theorem heap_set_ne (o : Obj) {l r : Nat} (hne : r ≠ l) : ({ w with heap := w.heap.setIfInBounds l o } : World).heap[r]? = w.heap[r]? := by
  simp only
  rw [Array.getElem?_setIfInBounds_ne (Ne.symm hne)]
theorem vcode_sound {call : CallF} {fc : FcF} {dr : Nat → Array Oper → St → Option St} (hcall : CallOk C call) (hfc : FcOk C fc) (hdr : DrOk C dr) {k : Nat} {rd : Bool} {r : Option Nat} (hrd : rd = false → r = none) :
    (c : Code) → codeOk nt c = true → {s : St} → {e : Ex} → {s' : St} → vcode C call fc dr k nt rd c s = some (e, s') → ∀ {m Z a w}, ∀ (Q : Exit → Act → World → Prop), HR C m Z s.h w → RT Z w nt s.T m a.tmps → DI w0 m Z s.h w a.defers → w0 ≤ w.heap.size → (∀ b, s.n ≤ b → b < s'.n → m b = none) →
    (∀ a' w' m' Z', Step C m Z s.h s.n w m' Z' s'.h s'.n w' → RT Z' w' nt s'.T m' a'.tmps → DI w0 m' Z' s'.h w' a'.defers → Q (exOf e) a' w') → c.wpIn (Fw r) 0 C.P Q a w
  | .skip, hok, s, e, s', hv, m, Z, a, w, Q, hr, hT, hD, hw, hf, hQ => by
    simp only [vcode, Option.some.injEq, Prod.mk.injEq] at hv
    obtain ⟨rfl, rfl⟩ := hv
    exact wpIn_skip (hQ a w m Z (Step.refl hr) hT hD)
  | .label l, hok, s, e, s', hv, m, Z, a, w, Q, hr, hT, hD, hw, hf, hQ => by
    simp only [vcode, Option.some.injEq, Prod.mk.injEq] at hv
    obtain ⟨rfl, rfl⟩ := hv
    exact wpIn_label (hQ a w m Z (Step.refl hr) hT hD)
  | .region id ops d, hok, s, e, s', hv, m, Z, a, w, Q, hr, hT, hD, hw, hf, hQ => by
    simp only [vcode, Option.map_eq_some_iff] at hv
    obtain ⟨s1, h1, h2⟩ := hv
    injection h2 with h2 h3; subst h2; subst h3
    have hds := dstsOk_of hok
    cases d with
    | true => exact hdr.2 nt ops s s1 h1 hds id r Q m Z a w hr hT hf fun a' w' m' Z' st hT' e => hQ a' w' m' Z' st hT' (by rw [e]; exact hD.step st)
    | false =>
      refine wpIn_region ?_
      have := vops_sound hcall hds r Q ops.toList 0 rfl h1 hr hT hD hf hQ
      simpa [List.range_eq_range'] using this
  | .seq x y, hok, s, e, s', hv, m, Z, a, w, Q, hr, hT, hD, hw, hf, hQ => by
    simp only [codeOk, Bool.and_eq_true] at hok
    simp only [vcode] at hv
    refine wpIn_seq ?_
    split at hv
    · rename_i s1 h1
      have hle := vcode_mono hdr.1 y hv
      refine vcode_sound hcall hfc hdr hrd x hok.1 h1 _ hr hT hD hw (fun b hb1 hb2 => hf b hb1 (Nat.lt_of_lt_of_le hb2 hle)) fun a1 w1 m1 Z1 s1' hT1 hD1 => ?_
      exact vcode_sound hcall hfc hdr hrd y hok.2 hv Q s1'.hr hT1 hD1 (Nat.le_trans hw s1'.size) (s1'.fresh hf) fun a' w' m' Z' s2 => hQ a' w' m' Z' (s1'.trans s2)
    · rename_i hno
      refine vcode_sound hcall hfc hdr hrd x hok.1 hv _ hr hT hD hw hf fun a1 w1 m1 Z1 s1' hT1 hD1 => ?_
      cases e with
      | norm => exact absurd hv (hno _)
      | exit id => exact hQ a1 w1 m1 Z1 s1' hT1 hD1
      | ret => exact hQ a1 w1 m1 Z1 s1' hT1 hD1
  | .cond c x y, hok, s, e, s', hv, m, Z, a, w, Q, hr, hT, hD, hw, hf, hQ => by
    simp only [codeOk, Bool.and_eq_true] at hok
    simp only [vcode] at hv
    split at hv
    · rename_i t hc
      have hx := val_sound hr hT c
      rw [hc] at hx
      simp only [RV] at hx
      refine wpIn_cond hx.1 ?_
      cases t with
      | true => exact vcode_sound hcall hfc hdr hrd x hok.1 (by simpa using hv) Q hr hT hD hw hf hQ
      | false => exact vcode_sound hcall hfc hdr hrd y hok.2 (by simpa using hv) Q hr hT hD hw hf hQ
    · cases hv
  | .block id c, hok, s, e, s', hv, m, Z, a, w, Q, hr, hT, hD, hw, hf, hQ => by
    simp only [codeOk] at hok
    simp only [vcode] at hv
    refine wpIn_block ?_
    split at hv
    · rename_i j s1 h1
      injection hv with hv; injection hv with hv1 hv2; subst hv2
      refine vcode_sound hcall hfc hdr hrd c hok h1 _ hr hT hD hw hf fun a1 w1 m1 Z1 s1' hT1 hD1 => ?_
      have := hQ a1 w1 m1 Z1 s1' hT1 hD1
      rw [← hv1] at this
      show (if j = id then Q .normal a1 w1 else Q (.exit j) a1 w1)
      split
      · rename_i hj; rw [if_pos hj] at this; exact this
      · rename_i hj; rw [if_neg hj] at this; exact this
    · rename_i hno
      refine vcode_sound hcall hfc hdr hrd c hok hv _ hr hT hD hw hf fun a1 w1 m1 Z1 s1' hT1 hD1 => ?_
      cases e with
      | norm => exact hQ a1 w1 m1 Z1 s1' hT1 hD1
      | exit id' => exact absurd hv (hno _ _)
      | ret => exact hQ a1 w1 m1 Z1 s1' hT1 hD1
  | .loop c, hok, s, e, s', hv, m, Z, a, w, Q, hr, hT, hD, hw, hf, hQ => by
    simp only [codeOk] at hok
    simp only [vcode] at hv
    refine wpIn_loop_rounds k ?_
    exact loop_sound r Q (fun s e s' h => vcode_mono hdr.1 c h) (fun h Q' hr hT hD hw hf hQ => vcode_sound hcall hfc hdr hrd c hok h Q' hr hT hD hw hf hQ) k hv hr hT hD hw hf hQ
  | .exit id, hok, s, e, s', hv, m, Z, a, w, Q, hr, hT, hD, hw, hf, hQ => by
    simp only [vcode, Option.some.injEq, Prod.mk.injEq] at hv
    obtain ⟨rfl, rfl⟩ := hv
    exact wpIn_exit (hQ a w m Z (Step.refl hr) hT hD)
  | .ret, hok, s, e, s', hv, m, Z, a, w, Q, hr, hT, hD, hw, hf, hQ => by
    simp only [vcode, Option.some.injEq, Prod.mk.injEq] at hv
    obtain ⟨rfl, rfl⟩ := hv
    exact wpIn_ret (hQ a w m Z (Step.refl hr) hT hD)
  | .scope _, _, _, _, _, hv, _, _, _, _, _, _, _, _, _, _, _ | .goto _, _, _, _, _, hv, _, _, _, _, _, _, _, _, _, _, _ | .refuse _, _, _, _, _, hv, _, _, _, _, _, _, _, _, _, _, _ => by simp [vcode] at hv
  | .rangeFunc g ps as body, hok, s, e, s', hv, m, Z, a, w, Q, hr, hT, hD, hw, hf, hQ => by
    simp only [codeOk, Bool.and_eq_true] at hok
    simp only [vcode] at hv
    split at hv
    · cases hv
    · rename_i hrd0
      obtain rfl : r = none := hrd (by simpa using hrd0)
      have hx := val_sound hr hT g
      cases hg : val C s.T g with
      | fn gf caps =>
        cases gf with
        | func f =>
          simp only [hg] at hv
          split at hv
          · rename_i v h2 n2 hcf
            split at hv
            · cases hv
            · rename_i hn2
              split at hv
              · rename_i L2 hL2
                rw [hg] at hx
                simp only [RV] at hx
                obtain ⟨us, hev, hus⟩ := hx
                have hs'n : s'.n = n2 ∧ s'.h = upd h2 s.n none ∧ s'.T = s.T ∧ (∃ c, L2.jump = some c ∧ (∀ Q : Exit → Act → World → Prop, ∀ a w, Q (exOf e) a w → c.wpIn (Fw none) 0 C.P Q a w)) ∨ (s'.n = n2 ∧ s'.h = upd h2 s.n none ∧ s'.T = s.T ∧ L2.jump = none ∧ L2.open_ = true ∧ e = .norm) := by
                  split at hv
                  · rename_i h3 h4
                    injection hv with hv; injection hv with hv1 hv2; subst hv1; subst hv2
                    exact .inr ⟨rfl, rfl, rfl, h3, h4, rfl⟩
                  · rename_i h3
                    injection hv with hv; injection hv with hv1 hv2; subst hv1; subst hv2
                    exact .inl ⟨rfl, rfl, rfl, .ret, h3, fun Q a w h => wpIn_ret h⟩
                  · rename_i id h3
                    injection hv with hv; injection hv with hv1 hv2; subst hv1; subst hv2
                    exact .inl ⟨rfl, rfl, rfl, .exit id, h3, fun Q a w h => wpIn_exit h⟩
                  · cases hv
                have hsn : s'.n = n2 := by rcases hs'n with h | h <;> exact h.1
                have hsh : s'.h = upd h2 s.n none := by rcases hs'n with h | h <;> exact h.2.1
                have hsT : s'.T = s.T := by rcases hs'n with h | h <;> exact h.2.2.1
                have hmn : m s.n = none := hf _ (Nat.le_refl _) (by omega)
                refine wpIn_rangeFunc fun fn _ => ?_
                let W1 : World := { w with heap := w.heap.push (.deferred (some [])) }
                let lo : Loop := { state := .ready, pending := none, fn, tmps := a.tmps, params := ps, assign := as, body, defers := w.heap.size }
                let W2 : World := { W1 with heap := W1.heap.push (.loop lo) }
                have st1 : Step C m Z s.h s.n w m Z s.h s.n W1 := Step.aside hr _
                have st2 : Step C m Z s.h s.n W1 (upd m s.n (some ⟨w.heap.size + 1, 0, 0, 0⟩)) Z (upd s.h s.n (some (.loop ⟨s.T, nt, ps.toList, as, body, none, true⟩))) (s.n + 1) W2 :=
                  Step.push (mb := ⟨w.heap.size + 1, 0, 0, 0⟩) (o := .loop lo) (bk := .loop ⟨s.T, nt, ps.toList, as, body, none, true⟩) st1.hr hmn (by simp [W1]) ⟨lo, rfl, by simp [lo], rfl, rfl, st1.rt hr hT, rfl, rfl⟩
                have st12 := st1.trans st2
                have hD1 := hD.push hr hw
                have hD2 := hD1.step st2
                have hcaps : RVl Z W2 (.fn (.yield s.n) [] :: caps) (upd m s.n (some ⟨w.heap.size + 1, 0, 0, 0⟩)) (.func (.yield (w.heap.size + 1)) #[] #[] :: us) :=
                  ⟨_, _, rfl, by simp only [RV]; exact ⟨_, upd_same _ _ _, rfl⟩, st12.rvl hr hus⟩
                have hfr2 : ∀ b, s.n + 1 ≤ b → b < n2 → upd m s.n (some ⟨w.heap.size + 1, 0, 0, 0⟩) b = none := fun b hb1 hb2 => by
                  rw [upd_ne _ _ (by omega)]
                  exact hf b (by omega) (by omega)
                obtain ⟨hrun, hcalls⟩ := hfc f _ _ _ _ _ _ hcf (by omega) _ _ _ _ st12.hr hcaps hfr2
                refine ⟨w.heap.size + 1, [markOf w.heap.size], W2, { target := .fn (.func f) us.toArray, args := #[.func (.yield (w.heap.size + 1)) #[] #[]] }, W2, f, (.func (.yield (w.heap.size + 1)) #[] #[] :: us).toArray, W2, run_enterLoop fn a.tmps ps as body C.P, ?_, fun _ _ => trivial, ?_, fun h => by simp [Fw, Fence.wide] at h, ?_⟩
                · have e0 : (#[] ++ Array.map a.eval #[Operand.const (Value.func (Fn.yield (w.heap.size + 1)) #[] #[])] : Array Value) = #[Value.func (Fn.yield (w.heap.size + 1)) #[] #[]] := by simp [Act.eval]
                  simp only [resolve, rangeCall, hev, Deferred.ofValue, e0]
                  rfl
                · have : (#[Value.func (.yield (w.heap.size + 1)) #[] #[]] ++ us.toArray) = (Value.func (.yield (w.heap.size + 1)) #[] #[] :: us).toArray := by
                    apply Array.ext'
                    simp
                  simp only [invoke, this]
                  exact hrun
                · refine CallsIn.mono hcalls ?_
                  rintro e' w3 ⟨u, m3, Z3, rfl, st3, hu⟩
                  have st123 := st12.trans st3
                  obtain ⟨mb, rr, q1, q2, q3, q4, q5, q6, q7, q8, q9⟩ := st3.hr.loops s.n L2 hL2
                  have hmb : mb = ⟨w.heap.size + 1, 0, 0, 0⟩ := by
                    have := st3.mext s.n _ (upd_same _ _ _)
                    rw [q1] at this
                    injection this
                  subst hmb
                  have hbusy : rr.state ≠ .busy := by
                    rw [q8]
                    unfold stOf
                    rcases hs'n with ⟨_, _, _, c, hc, _⟩ | ⟨_, _, _, hj, ho, _⟩
                    · rw [hc]
                      split
                      · simp
                      · simp
                    · rw [ho]; simp
                  have hend := run_endLoop (P := C.P) q2 hbusy
                  have st4 : Step C m3 Z3 h2 n2 w3 m3 Z3 (upd h2 s.n none) n2 { w3 with heap := w3.heap.setIfInBounds (w.heap.size + 1) (.loop { rr with state := .exhausted }) } :=
                    Step.giveUp st3.hr hL2 q1 q3 (heap_set_size _ _) (fun r hne => heap_set_ne _ hne) rfl rfl rfl
                  have stA := st123.trans st4
                  have hD4 := (hD2.step st3).step st4
                  have hT4 := stA.rt hr hT
                  refine ⟨_, _, hend, ?_⟩
                  have fin : Q (exOf e) { a with defers := [markOf w.heap.size] ++ a.defers } { w3 with heap := w3.heap.setIfInBounds (w.heap.size + 1) (.loop { rr with state := .exhausted }) } := by
                    refine hQ _ _ m3 Z3 ?_ ?_ ?_
                    · rw [hsn, hsh]; exact stA
                    · rw [hsT]; exact hT4
                    · rw [hsh]; exact hD4
                  dsimp only at fin ⊢
                  generalize ({ w3 with heap := w3.heap.setIfInBounds (w.heap.size + 1) (.loop { rr with state := .exhausted }) } : World) = W4 at fin ⊢
                  rw [q9]
                  rcases hs'n with ⟨_, _, _, c, hc, hwp⟩ | ⟨_, _, _, hj, ho, he⟩
                  · rw [hc]
                    exact hwp Q _ _ fin
                  · rw [hj]
                    rw [he] at fin
                    exact fin
              · cases hv
          · cases hv
        | _ => simp [hg] at hv
      | _ => simp [hg] at hv
end
end Go.Proofs.Bv
namespace Go.Proofs.Bv
open Go
section
variable {C : Cfg} {m m' : AMap} {Z Z' : Nat → Prop} {h h' : Heap} {n n' nt w0 : Nat} {w w' : World}
theorem frz_dom (h : Heap) : (k : Nat) → {a : AV} → {r : AV × List Nat} → frz h k a = some r → ∀ b ∈ r.2, ∃ cs es fz, h b = some (.cells cs es fz)
  | 0, _, _, hv => by simp [frz] at hv
  | k + 1, a, r, hv => by
    have ih := @frz_dom h k
    have ihl : (l : List AV) → {r : List AV × List Nat} → mapF (frz h k) l = some r → ∀ b ∈ r.2, ∃ cs es fz, h b = some (.cells cs es fz) := by
      intro l
      induction l with
      | nil => intro r hv; simp only [mapF, Option.some.injEq] at hv; subst hv; simp
      | cons a l ihl =>
        intro r hv
        simp only [mapF] at hv
        split at hv
        · rename_i r1 r2 e1 e2
          injection hv with hv; subst hv
          intro b hb
          rcases List.mem_append.1 hb with hb | hb
          · exact ih e1 b hb
          · exact ihl e2 b hb
        · cases hv
    simp only [frz] at hv
    split at hv
    · injection hv with hv; subst hv; simp
    · split at hv
      · injection hv with hv; subst hv; simp
      · injection hv with hv; subst hv; simp
      · split at hv <;> try (cases hv; done)
        rename_i cs es fz hb
        split at hv <;> try (cases hv; done)
        simp only [Option.map_eq_some_iff] at hv
        obtain ⟨x, hx, rfl⟩ := hv
        intro b' hb'
        rcases List.mem_cons.1 hb' with rfl | hb'
        · exact ⟨cs, es, fz, hb⟩
        · exact ihl _ hx b' hb'
      · split at hv <;> try (cases hv; done)
        rename_i cs es fz hb
        simp only [Option.map_eq_some_iff] at hv
        obtain ⟨x, hx, rfl⟩ := hv
        intro b' hb'
        rcases List.mem_cons.1 hb' with rfl | hb'
        · exact ⟨cs, es, fz, hb⟩
        · exact ihl _ hx b' hb'
      · cases hv
      · simp only [Option.map_eq_some_iff] at hv
        obtain ⟨x, hx, rfl⟩ := hv
        exact ihl _ hx
      · simp only [Option.map_eq_some_iff] at hv
        obtain ⟨x, hx, rfl⟩ := hv
        exact fun b hb => ih hx b hb
      · simp only [Option.map_eq_some_iff] at hv
        obtain ⟨x, hx, rfl⟩ := hv
        exact ihl _ hx
      · simp only [Option.map_eq_some_iff] at hv
        obtain ⟨x, hx, rfl⟩ := hv
        exact ihl _ hx
      · cases hv
theorem mapF_dom (h : Heap) (k : Nat) : (l : List AV) → {r : List AV × List Nat} → mapF (frz h k) l = some r → ∀ b ∈ r.2, ∃ cs es fz, h b = some (.cells cs es fz)
  | [], r, hv => by simp only [mapF, Option.some.injEq] at hv; subst hv; simp
  | a :: l, r, hv => by
    simp only [mapF] at hv
    split at hv
    · rename_i r1 r2 e1 e2
      injection hv with hv; subst hv
      intro b hb
      rcases List.mem_append.1 hb with hb | hb
      · exact frz_dom h k e1 b hb
      · exact mapF_dom h k l e2 b hb
    · cases hv
theorem mapF_l {f : AV → Option (AV × List Nat)} {B : List Nat → Prop} (hB : ∀ x y, B (x ++ y) → B x ∧ B y) (hf : ∀ a r v, f a = some r → B r.2 → RV Z w a m v → RV Z' w r.1 noMap v) :
    (l : List AV) → {r : List AV × List Nat} → {us : List Value} → mapF f l = some r → B r.2 → RVl Z w l m us → RVl Z' w r.1 noMap us
  | [], r, us, hv, _, hu => by simp only [mapF, Option.some.injEq] at hv; subst hv; simpa only [RVl] using hu
  | a :: l, r, us, hv, hb, hu => by
    simp only [mapF] at hv
    split at hv
    · rename_i r1 r2 e1 e2
      injection hv with hv; subst hv
      simp only [RVl] at hu ⊢
      obtain ⟨u, us, rfl, h1, h2⟩ := hu
      obtain ⟨b1, b2⟩ := hB _ _ hb
      exact ⟨u, us, rfl, hf a r1 u e1 b1 h1, mapF_l hB hf l e2 b2 h2⟩
    · cases hv
theorem mapF_s {f : AV → Option (AV × List Nat)} {B : List Nat → Prop} (hB : ∀ x y, B (x ++ y) → B x ∧ B y) (hf : ∀ a r v, f a = some r → B r.2 → RV Z w a m v → RV Z' w r.1 noMap v) (h1 : ∀ a r, f a = some r → a.one = true → r.1.one = true) :
    (l : List AV) → {r : List AV × List Nat} → {us : List Value} → mapF f l = some r → B r.2 → RVs Z w l m us → RVs Z' w r.1 noMap us
  | [], r, us, hv, _, hu => by simp only [mapF, Option.some.injEq] at hv; subst hv; simpa only [RVs] using hu
  | a :: l, r, us, hv, hb, hu => by
    simp only [mapF] at hv
    split at hv
    · rename_i r1 r2 e1 e2
      injection hv with hv; subst hv
      simp only [RVs] at hu ⊢
      obtain ⟨u, us, rfl, h0, h2, h3⟩ := hu
      obtain ⟨b1, b2⟩ := hB _ _ hb
      exact ⟨u, us, rfl, h1 _ _ e1 h0, hf a r1 u e1 b1 h2, mapF_s hB hf h1 l e2 b2 h3⟩
    · cases hv
theorem frz_one (h : Heap) : (k : Nat) → {a : AV} → {r : AV × List Nat} → frz h k a = some r → a.one = true → r.1.one = true
  | 0, _, _, hv, _ => by simp [frz] at hv
  | k + 1, a, r, hv, ho => by
    simp only [frz] at hv
    split at hv
    · injection hv with hv; subst hv; exact ho
    · rename_i hnp
      clear hnp
      cases a <;> simp only at hv <;> try (cases hv; done)
      case nilS => injection hv with hv; subst hv; rfl
      case emp => injection hv with hv; subst hv; rfl
      case osl b off len =>
        split at hv <;> try (cases hv; done)
        split at hv <;> try (cases hv; done)
        simp only [Option.map_eq_some_iff] at hv
        obtain ⟨x, _, rfl⟩ := hv
        rfl
      case ptr b off =>
        split at hv <;> try (cases hv; done)
        simp only [Option.map_eq_some_iff] at hv
        obtain ⟨x, _, rfl⟩ := hv
        rfl
      case fn f caps =>
        cases f <;> first
          | (cases hv; done)
          | (obtain ⟨x, _, rfl⟩ := Option.map_eq_some_iff.1 hv; rfl)
      case ifc t v =>
        simp only [Option.map_eq_some_iff] at hv
        obtain ⟨x, _, rfl⟩ := hv
        rfl
      all_goals simp [AV.one] at ho
theorem frz_sound (hr : HR C m Z h w) (hZ : ∀ r, Z r → Z' r) : (k : Nat) → {a : AV} → {r : AV × List Nat} → {v : Value} → frz h k a = some r → (∀ b ∈ r.2, ∀ mb, m b = some mb → Z' mb.rb) → RV Z w a m v → RV Z' w r.1 noMap v
  | 0, _, _, _, hv, _, _ => by simp [frz] at hv
  | k + 1, a, r, v, hv, hids, hu => by
    have ih : ∀ a r v, frz h k a = some r → (∀ b ∈ r.2, ∀ mb, m b = some mb → Z' mb.rb) → RV Z w a m v → RV Z' w r.1 noMap v := fun a r v => frz_sound hr hZ k
    have hB : ∀ x y : List Nat, (∀ b ∈ x ++ y, ∀ mb, m b = some mb → Z' mb.rb) → (∀ b ∈ x, ∀ mb, m b = some mb → Z' mb.rb) ∧ (∀ b ∈ y, ∀ mb, m b = some mb → Z' mb.rb) :=
      fun x y h => ⟨fun b hb => h b (List.mem_append.2 (.inl hb)), fun b hb => h b (List.mem_append.2 (.inr hb))⟩
    simp only [frz] at hv
    split at hv
    · rename_i hp
      injection hv with hv; subst hv
      exact RV_mono hZ (fun _ _ => rfl) _ (fun _ _ h => h) (RV_pur a noMap hp hu)
    · rename_i hnp
      clear hnp
      cases a <;> simp only at hv <;> try (cases hv; done)
      case nilS =>
        injection hv with hv; subst hv
        simp only [RV] at hu ⊢
        exact ⟨none, 0, hu, .inl ⟨trivial, trivial, fun _ => rfl⟩⟩
      case emp =>
        injection hv with hv; subst hv
        simp only [RV] at hu ⊢
        obtain ⟨a, cap, rfl⟩ := hu
        exact ⟨some a, cap, rfl, .inl ⟨trivial, trivial, fun e => by cases e⟩⟩
      case osl b off len =>
        split at hv <;> try (cases hv; done)
        rename_i cs es fz hb
        split at hv <;> try (cases hv; done)
        simp only [Option.map_eq_some_iff] at hv
        obtain ⟨x, hx, rfl⟩ := hv
        simp only [RV] at hu ⊢
        obtain ⟨mb, cap, hm, rfl, hlc, _⟩ := hu
        obtain ⟨us, h1, h2⟩ := (hr.reads hb hm).cut off (len * es)
        have hz : Z' mb.rb := hids b (by simp) mb hm
        exact ⟨_, cap, rfl, .inr ⟨hlc, mb.rb, mb.base + off, us, rfl, hz, h1, mapF_s (B := fun l => ∀ b ∈ l, ∀ mb, m b = some mb → Z' mb.rb) hB ih (fun a r => frz_one h k) _ hx (fun b' hb' => hids b' (List.mem_cons_of_mem _ hb')) h2⟩⟩
      case ptr b off =>
        split at hv <;> try (cases hv; done)
        rename_i cs es fz hb
        simp only [Option.map_eq_some_iff] at hv
        obtain ⟨x, hx, rfl⟩ := hv
        simp only [RV] at hu ⊢
        obtain ⟨mb, hm, rfl⟩ := hu
        obtain ⟨us, h1, h2⟩ := hr.reads hb hm
        have hz : Z' mb.rb := hids b (by simp) mb hm
        exact ⟨mb.rb, mb.base, us, rfl, hz, h1, mapF_s (B := fun l => ∀ b ∈ l, ∀ mb, m b = some mb → Z' mb.rb) hB ih (fun a r => frz_one h k) _ hx (fun b' hb' => hids b' (List.mem_cons_of_mem _ hb')) h2⟩
      case fn f caps =>
        cases f <;> try (cases hv; done)
        all_goals
          obtain ⟨x, hx, rfl⟩ := Option.map_eq_some_iff.1 hv
          simp only [RV] at hu ⊢
          obtain ⟨us, rfl, h2⟩ := hu
          exact ⟨us, rfl, mapF_l (B := fun l => ∀ b ∈ l, ∀ mb, m b = some mb → Z' mb.rb) hB ih _ hx hids h2⟩
      case ifc t x =>
        simp only [Option.map_eq_some_iff] at hv
        obtain ⟨x, hx, rfl⟩ := hv
        simp only [RV] at hu ⊢
        obtain ⟨u, rfl, h2⟩ := hu
        exact ⟨u, rfl, ih _ _ _ hx hids h2⟩
      case agg cs =>
        simp only [Option.map_eq_some_iff] at hv
        obtain ⟨x, hx, rfl⟩ := hv
        simp only [RV] at hu ⊢
        obtain ⟨us, rfl, h2⟩ := hu
        exact ⟨us, rfl, mapF_s (B := fun l => ∀ b ∈ l, ∀ mb, m b = some mb → Z' mb.rb) hB ih (fun a r => frz_one h k) _ hx hids h2⟩
      case tup vs =>
        simp only [Option.map_eq_some_iff] at hv
        obtain ⟨x, hx, rfl⟩ := hv
        simp only [RV] at hu ⊢
        obtain ⟨us, rfl, h2⟩ := hu
        exact ⟨us, rfl, mapF_l (B := fun l => ∀ b ∈ l, ∀ mb, m b = some mb → Z' mb.rb) hB ih _ hx hids h2⟩
def Zof (Z : Nat → Prop) (m : AMap) (ids : List Nat) : Nat → Prop := fun r => Z r ∨ ∃ b ∈ ids, ∃ mb, m b = some mb ∧ mb.rb = r
theorem HR.lone (hr : HR C m Z h w) {ids : List Nat} (hd : ∀ b ∈ ids, ∃ cs es fz, h b = some (.cells cs es fz)) : HR C noMap (Zof Z m ids) noHeap w := by
  refine ⟨fun b cs es fz e => by simp [noHeap] at e, fun b L e => by simp [noHeap] at e, fun b b' o o' mb mb' e => by simp [noHeap] at e, fun r e => ?_, fun g cs e => RV_mono (fun _ h => .inl h) (fun _ _ => rfl) _ (fun _ _ h => h) (hr.glob g cs e)⟩
  rcases e with e | ⟨b, hb, mb, e1, rfl⟩
  · exact hr.zlt r e
  · obtain ⟨cs, es, fz, e2⟩ := hd b hb
    exact hr.lt e2 e1
theorem no_own {Z : Nat → Prop} {m : AMap} {r : Nat} : ¬ Own Z noHeap m r := fun ⟨_, _, _, e, _⟩ => by simp [noHeap] at e
theorem Step.quiet (hr : HR C m Z h w) (hs : w.heap.size ≤ w'.heap.size) (hk : ∀ r, r < w.heap.size → w'.heap[r]? = w.heap[r]?) (ho : w'.os = w.os) (ht : w'.tape = w.tape) (hu : w'.output = w.output) : Step C m Z h n w m Z h n w' := by
  have hkz : ∀ r, Z r → w'.heap[r]? = w.heap[r]? := fun r e => hk r (hr.zlt r e)
  refine ⟨⟨fun b cs es fz e => ?_, fun b L e => ?_, hr.inj, fun r e => Nat.lt_of_lt_of_le (hr.zlt r e) hs, fun g cs e => RV_mono (fun _ h => h) hkz _ (fun _ _ h => h) (hr.glob g cs e)⟩,
    fun _ _ e => e, fun _ e => .inl e, fun _ e => e, fun _ e => .inl e, Nat.le_refl _, hs, fun r hr' _ => hk r hr', fun r hr' e => e, ho, ht, hu⟩
  · obtain ⟨mb, c, e', us, h1, h2, h3, h4, h5, h6, h7⟩ := hr.cells b cs es fz e
    exact ⟨mb, c, e', us, h1, h2, h3, by rw [← h4]; exact hk _ (hr.lt e h1), h5, RVs_mono (fun _ h => h) hkz _ (fun _ _ h => h) h6, h7⟩
  · obtain ⟨mb, r, h1, h2, h3, h4, h5, h6, h7, h8⟩ := hr.loops b L e
    exact ⟨mb, r, h1, by rw [← h2]; exact hk _ (hr.lt e h1), h3, h4, h5, h6, RT_mono (fun _ h => h) hkz (fun _ _ h => h) h7, h8⟩
theorem shut_get {ids : List Nat} {b : Nat} {o : Blk} (e : shutIds h ids b = some o) : (b ∈ ids ∧ ∃ o', h b = some o' ∧ o = shutBlk o') ∨ (b ∉ ids ∧ h b = some o) := by
  unfold shutIds at e
  split at e
  · rename_i hc
    simp only [Option.map_eq_some_iff] at e
    obtain ⟨o', e1, e2⟩ := e
    exact .inl ⟨by simpa using hc, o', e1, e2.symm⟩
  · rename_i hc
    exact .inr ⟨by simpa using hc, e⟩
theorem Step.shut (hr : HR C m Z h w) {ids : List Nat} (hd : ∀ b ∈ ids, ∃ cs es fz, h b = some (.cells cs es fz)) {Z2 : Nat → Prop} (hs : w.heap.size ≤ w'.heap.size) (hk : ∀ r, r < w.heap.size → w'.heap[r]? = w.heap[r]?)
    (hz1 : ∀ r, Zof Z m ids r → Z2 r) (hz2 : ∀ r, Z2 r → Zof Z m ids r ∨ w.heap.size ≤ r) (hz3 : ∀ r, Z2 r → r < w'.heap.size) (ho : w'.os = w.os) (ht : w'.tape = w.tape) (hu : w'.output = w.output) : Step C m Z h n w m Z2 (shutIds h ids) n w' := by
  have hzz : ∀ r, Z r → Z2 r := fun r e => hz1 r (.inl e)
  have hkz : ∀ r, Z r → w'.heap[r]? = w.heap[r]? := fun r e => hk r (hr.zlt r e)
  have key : ∀ {b mb o}, h b = some o → m b = some mb → Z2 mb.rb → Z mb.rb ∨ b ∈ ids := by
    intro b mb o e1 e2 e3
    rcases hz2 _ e3 with (e | ⟨b', hb', mb', e4, e5⟩) | e
    · exact .inl e
    · by_cases hz : Z mb.rb
      · exact .inl hz
      · obtain ⟨cs, es, fz, e6⟩ := hd b' hb'
        exact .inr (hr.inj b b' o _ mb mb' e1 e6 e2 e4 e5.symm hz ▸ hb')
    · have := hr.lt e1 e2; omega
  refine ⟨⟨fun b cs es fz e => ?_, fun b L e => ?_, fun b b' o o' mb mb' e1 e2 e3 e4 e5 hz => ?_, hz3, fun g cs e => RV_mono hzz hkz _ (fun _ _ h => h) (hr.glob g cs e)⟩,
    fun _ _ e => e, fun _ e => .inl e, hzz, fun r e => ?_, Nat.le_refl _, hs, fun r hr' _ => hk r hr', fun r hr' e => ?_, ho, ht, hu⟩
  · rcases shut_get e with ⟨hb, o', e1, e2⟩ | ⟨hb, e1⟩
    · cases o' with
      | loop L => simp [shutBlk] at e2
      | cells cs' es' fz' =>
        simp only [shutBlk, Blk.cells.injEq] at e2
        obtain ⟨rfl, rfl, rfl⟩ := e2
        obtain ⟨mb, c, e', us, h1, h2, h3, h4, h5, h6, h7⟩ := hr.cells b _ _ _ e1
        exact ⟨mb, c, e', us, h1, h2, h3, by rw [← h4]; exact hk _ (hr.lt e1 h1), h5, RVs_mono hzz hkz _ (fun _ _ h => h) h6, ⟨fun _ => hz1 _ (.inr ⟨b, hb, mb, h1, rfl⟩), fun _ => rfl⟩⟩
    · obtain ⟨mb, c, e', us, h1, h2, h3, h4, h5, h6, h7⟩ := hr.cells b cs es fz e1
      refine ⟨mb, c, e', us, h1, h2, h3, by rw [← h4]; exact hk _ (hr.lt e1 h1), h5, RVs_mono hzz hkz _ (fun _ _ h => h) h6, ⟨fun e => hzz _ (h7.1 e), fun e => h7.2 ?_⟩⟩
      rcases key e1 h1 e with e | e
      · exact e
      · exact absurd e hb
  · rcases shut_get e with ⟨hb, o', e1, e2⟩ | ⟨hb, e1⟩
    · obtain ⟨cs, es, fz, e6⟩ := hd b hb
      rw [e1] at e6
      injection e6 with e6
      subst e6
      simp [shutBlk] at e2
    · obtain ⟨mb, r, h1, h2, h3, h4, h5, h6, h7, h8⟩ := hr.loops b L e1
      refine ⟨mb, r, h1, by rw [← h2]; exact hk _ (hr.lt e1 h1), fun e => ?_, h4, h5, h6, RT_mono hzz hkz (fun _ _ h => h) h7, h8⟩
      rcases key e1 h1 e with e | e
      · exact h3 e
      · exact hb e
  · have get : ∀ {b o}, shutIds h ids b = some o → ∃ o', h b = some o' := by
      intro b o e
      rcases shut_get e with ⟨_, o', e1, _⟩ | ⟨_, e1⟩
      · exact ⟨o', e1⟩
      · exact ⟨o, e1⟩
    obtain ⟨p, e1'⟩ := get e1
    obtain ⟨q, e2'⟩ := get e2
    exact hr.inj b b' p q mb mb' e1' e2' e3 e4 e5 (fun e => hz (hzz _ e))
  · rcases hz2 r e with (e | ⟨b, hb, mb, e4, e5⟩) | e
    · exact .inl e
    · by_cases hz : Z r
      · exact .inl hz
      · obtain ⟨cs, es, fz, e6⟩ := hd b hb
        exact .inr (.inr ⟨b, _, mb, e6, e4, e5, hz⟩)
    · exact .inr (.inl e)
  · obtain ⟨b, o, mb, e1, e2, e3, hz⟩ := e
    have : ∃ o', h b = some o' := by
      rcases shut_get e1 with ⟨_, o', e1, _⟩ | ⟨_, e1⟩
      · exact ⟨o', e1⟩
      · exact ⟨o, e1⟩
    obtain ⟨o', e1'⟩ := this
    exact ⟨b, o', mb, e1', e2, e3, fun e => hz (hzz _ e)⟩
end
end Go.Proofs.Bv
namespace Go.Proofs.Bv
open Go
section
variable {Z : Nat → Prop} {w : World} {k : Nat} {m1 m2 : AMap}
theorem sh_one (k : Nat) : (a : AV) → (a.sh k).one = a.one
  | .sc _ | .nilS | .emp | .psl _ _ | .pptr _ _ | .osl _ _ _ | .ptr _ _ | .ifc _ _ | .agg _ | .tup _ | .junk => rfl
  | .fn f _ => by cases f <;> rfl
mutual
theorem RV_sh (hm : ∀ b x, m1 b = some x → m2 (k + b) = some x) : (a : AV) → {v : Value} → RV Z w a m1 v → RV Z w (a.sh k) m2 v
  | .sc _, _, h => by simpa only [AV.sh, RV] using h
  | .nilS, _, h => by simpa only [AV.sh, RV] using h
  | .emp, _, h => by simpa only [AV.sh, RV] using h
  | .psl cs len, _, h => by simpa only [AV.sh, RV] using h
  | .pptr cs off, _, h => by simpa only [AV.sh, RV] using h
  | .osl b off len, _, h => by
    simp only [AV.sh, RV] at h ⊢
    obtain ⟨mb, cap, e, h⟩ := h
    exact ⟨mb, cap, hm _ _ e, h⟩
  | .ptr b off, _, h => by
    simp only [AV.sh, RV] at h ⊢
    obtain ⟨mb, e, h⟩ := h
    exact ⟨mb, hm _ _ e, h⟩
  | .fn f caps, _, h => by
    cases f <;> simp only [AV.sh, RV] at h ⊢
    case yield =>
      obtain ⟨mb, e, h⟩ := h
      exact ⟨mb, hm _ _ e, h⟩
    all_goals
      obtain ⟨us, e, h⟩ := h
      exact ⟨us, e, RVl_sh hm caps h⟩
  | .ifc t a, _, h => by
    simp only [AV.sh, RV] at h ⊢
    obtain ⟨u, e, h⟩ := h
    exact ⟨u, e, RV_sh hm a h⟩
  | .agg cs, _, h => by
    simp only [AV.sh, RV] at h ⊢
    obtain ⟨us, e, h⟩ := h
    exact ⟨us, e, RVs_sh hm cs h⟩
  | .tup vs, _, h => by
    simp only [AV.sh, RV] at h ⊢
    obtain ⟨us, e, h⟩ := h
    exact ⟨us, e, RVl_sh hm vs h⟩
  | .junk, _, _ => by simp only [AV.sh, RV]
theorem RVs_sh (hm : ∀ b x, m1 b = some x → m2 (k + b) = some x) : (l : List AV) → {us : List Value} → RVs Z w l m1 us → RVs Z w (shs k l) m2 us
  | [], _, h => by simpa only [shs, RVs] using h
  | a :: l, _, h => by
    simp only [shs, RVs] at h ⊢
    obtain ⟨u, r, e, h1, h2, h3⟩ := h
    exact ⟨u, r, e, by rw [sh_one]; exact h1, RV_sh hm a h2, RVs_sh hm l h3⟩
theorem RVl_sh (hm : ∀ b x, m1 b = some x → m2 (k + b) = some x) : (l : List AV) → {us : List Value} → RVl Z w l m1 us → RVl Z w (shs k l) m2 us
  | [], _, h => by simpa only [shs, RVl] using h
  | a :: l, _, h => by
    simp only [shs, RVl] at h ⊢
    obtain ⟨u, r, e, h2, h3⟩ := h
    exact ⟨u, r, e, RV_sh hm a h2, RVl_sh hm l h3⟩
end
mutual
theorem RV_cl (w' : World) (Z' : Nat → Prop) : (a : AV) → {m : AMap} → {v : Value} → a.cl = true → RV Z w a m v → RV Z' w' a m v
  | .sc _, _, _, _, h => by simpa only [RV] using h
  | .nilS, _, _, _, h => by simpa only [RV] using h
  | .emp, _, _, _, h => by simpa only [RV] using h
  | .psl [] 0, _, _, _, h => by
    simp only [RV] at h ⊢
    obtain ⟨a, cap, e, h⟩ := h
    refine ⟨a, cap, e, .inl ⟨trivial, trivial, fun ha => ?_⟩⟩
    rcases h with ⟨_, _, h⟩ | ⟨_, _, _, _, h, _⟩
    · exact h ha
    · rw [ha] at h; cases h
  | .psl [] (_ + 1), _, _, hp, _ => by simp [AV.cl] at hp
  | .psl (_ :: _) _, _, _, hp, _ => by simp [AV.cl] at hp
  | .pptr cs off, _, _, hp, _ => by simp [AV.cl] at hp
  | .osl b off len, _, _, _, h => by simpa only [RV] using h
  | .ptr b off, _, _, _, h => by simpa only [RV] using h
  | .fn f caps, _, _, hp, _ => by simp [AV.cl] at hp
  | .ifc t a, _, _, hp, h => by
    simp only [AV.cl] at hp
    simp only [RV] at h ⊢
    obtain ⟨u, e, h⟩ := h
    exact ⟨u, e, RV_cl w' Z' a hp h⟩
  | .agg cs, _, _, hp, h => by
    simp only [AV.cl] at hp
    simp only [RV] at h ⊢
    obtain ⟨us, e, h⟩ := h
    exact ⟨us, e, RVs_cl w' Z' cs hp h⟩
  | .tup vs, _, _, hp, h => by
    simp only [AV.cl] at hp
    simp only [RV] at h ⊢
    obtain ⟨us, e, h⟩ := h
    exact ⟨us, e, RVl_cl w' Z' vs hp h⟩
  | .junk, _, _, hp, _ => by simp [AV.cl] at hp
theorem RVs_cl (w' : World) (Z' : Nat → Prop) : (l : List AV) → {m : AMap} → {us : List Value} → cls l = true → RVs Z w l m us → RVs Z' w' l m us
  | [], _, _, _, h => by simpa only [RVs] using h
  | a :: l, _, _, hp, h => by
    simp only [cls, Bool.and_eq_true] at hp
    simp only [RVs] at h ⊢
    obtain ⟨u, r, e, h1, h2, h3⟩ := h
    exact ⟨u, r, e, h1, RV_cl w' Z' a hp.1 h2, RVs_cl w' Z' l hp.2 h3⟩
theorem RVl_cl (w' : World) (Z' : Nat → Prop) : (l : List AV) → {m : AMap} → {us : List Value} → cls l = true → RVl Z w l m us → RVl Z' w' l m us
  | [], _, _, _, h => by simpa only [RVl] using h
  | a :: l, _, _, hp, h => by
    simp only [cls, Bool.and_eq_true] at hp
    simp only [RVl] at h ⊢
    obtain ⟨u, r, e, h2, h3⟩ := h
    exact ⟨u, r, e, RV_cl w' Z' a hp.1 h2, RVl_cl w' Z' l hp.2 h3⟩
end
end
section
variable {C : Cfg} {m m1 : AMap} {Z Z1 Z2 : Nat → Prop} {h h1 g : Heap} {n n1 : Nat} {w w1 : World}
def joinM (m : AMap) (n n1 : Nat) (m1 : AMap) : AMap := fun b => if n ≤ b ∧ b < n + n1 then m1 (b - n) else m b
theorem Step.join (hr : HR C m Z h w) (sA : Step C m Z h n w m Z2 g n w1) (hg : ∀ b o, g b = some o → ∃ o', h b = some o') (hf : ∀ b, n ≤ b → b < n + n1 → m b = none) (hm1 : ∀ b x, m1 b = some x → b < n1)
    (H1 : ∀ b cs es fz, h1 b = some (.cells cs es fz) → ∃ mb c e us, m1 b = some mb ∧ mb.es = es ∧ mb.top = c.size ∧ w1.heap[mb.rb]? = some (.cells c e (0, 0)) ∧
      (∀ i, i < us.length → c[mb.base + i]? = us[i]?) ∧ RVs Z2 w1 cs m1 us ∧ (fz = true ↔ Z2 mb.rb) ∧ (¬ Z2 mb.rb → w.heap.size ≤ mb.rb))
    (hi : ∀ b b' o o' mb mb', h1 b = some o → h1 b' = some o' → m1 b = some mb → m1 b' = some mb' → mb.rb = mb'.rb → ¬ Z2 mb.rb → b = b') :
    Step C m Z h n w (joinM m n n1 m1) Z2 (joinH g n n1 h1) (n + n1) w1 := by
  have up : ∀ b x, m1 b = some x → joinM m n n1 m1 (n + b) = some x := fun b x e => by
    have := hm1 b x e
    unfold joinM
    rw [if_pos ⟨by omega, by omega⟩, Nat.add_sub_cancel_left]
    exact e
  have old : ∀ b x, m b = some x → joinM m n n1 m1 b = some x := fun b x e => by
    unfold joinM
    rw [if_neg]
    · exact e
    · rintro ⟨e1, e2⟩
      rw [hf b e1 e2] at e
      cases e
  have cls : ∀ {b o}, joinH g n n1 h1 b = some o → (∃ cs es fz, (n ≤ b ∧ b < n + n1) ∧ h1 (b - n) = some (.cells cs es fz) ∧ o = .cells (shs n cs) es fz) ∨ (¬ (n ≤ b ∧ b < n + n1) ∧ g b = some o) := by
    intro b o e
    unfold joinH at e
    by_cases hb : n ≤ b ∧ b < n + n1
    · rw [if_pos hb] at e
      cases hh : h1 (b - n) with
      | none => rw [hh] at e; cases e
      | some x =>
        rw [hh] at e
        cases x with
        | cells cs es fz =>
          injection e with e
          exact .inl ⟨cs, es, fz, hb, rfl, e.symm⟩
        | loop L => cases e
    · rw [if_neg hb] at e
      exact .inr ⟨hb, e⟩
  have mout : ∀ {b mb}, ¬ (n ≤ b ∧ b < n + n1) → joinM m n n1 m1 b = some mb → m b = some mb := by
    intro b mb hb e
    unfold joinM at e
    rwa [if_neg hb] at e
  have min : ∀ {b mb}, (n ≤ b ∧ b < n + n1) → joinM m n n1 m1 b = some mb → m1 (b - n) = some mb := by
    intro b mb hb e
    unfold joinM at e
    rwa [if_pos hb] at e
  have hnew : ∀ {b mb cs es fz}, h1 b = some (.cells cs es fz) → m1 b = some mb → ¬ Z2 mb.rb → w.heap.size ≤ mb.rb := by
    intro b mb cs es fz e1 e2 e3
    obtain ⟨mb', c, e', us, q1, _, _, _, _, _, _, q8⟩ := H1 b cs es fz e1
    rw [e2] at q1
    injection q1 with q1
    subst q1
    exact q8 e3
  have hold : ∀ {b o mb}, g b = some o → m b = some mb → mb.rb < w.heap.size := by
    intro b o mb e1 e2
    obtain ⟨o', e3⟩ := hg b o e1
    exact hr.lt e3 e2
  refine ⟨⟨fun b cs es fz e => ?_, fun b L e => ?_, fun b b' o o' mb mb' e1 e2 e3 e4 e5 e6 => ?_, sA.hr.zlt, sA.hr.glob⟩, old, fun b e => ?_, sA.zext, sA.znew, Nat.le_add_right _ _, sA.size, sA.frame, fun r hr' ⟨b, o, mb, e1, e2, e3, e4⟩ => ?_, sA.os, sA.tape, sA.output⟩
  · rcases cls e with ⟨cs', es', fz', hb, e1, e2⟩ | ⟨hb, e1⟩
    · injection e2 with e2 e3 e4
      subst e2; subst e3; subst e4
      obtain ⟨mb, c, e', us, q1, q2, q3, q4, q5, q6, q7, _⟩ := H1 _ _ _ _ e1
      have := up _ _ q1
      rw [show n + (b - n) = b by omega] at this
      exact ⟨mb, c, e', us, this, q2, q3, q4, q5, RVs_sh up cs' q6, q7⟩
    · obtain ⟨mb, c, e', us, q1, q2, q3, q4, q5, q6, q7⟩ := sA.hr.cells b cs es fz e1
      exact ⟨mb, c, e', us, old _ _ q1, q2, q3, q4, q5, RVs_mono (fun _ h => h) (fun _ _ => rfl) _ old q6, q7⟩
  · rcases cls e with ⟨cs', es', fz', hb, e1, e2⟩ | ⟨hb, e1⟩
    · cases e2
    · obtain ⟨mb, r, q1, q2, q3, q4, q5, q6, q7, q8⟩ := sA.hr.loops b L e1
      exact ⟨mb, r, old _ _ q1, q2, q3, q4, q5, q6, RT_mono (fun _ h => h) (fun _ _ => rfl) old q7, q8⟩
  · rcases cls e1 with ⟨c1, s1, z1, b1, f1, rfl⟩ | ⟨b1, f1⟩ <;> rcases cls e2 with ⟨c2, s2, z2, b2, f2, rfl⟩ | ⟨b2, f2⟩
    · have := hi _ _ _ _ _ _ f1 f2 (min b1 e3) (min b2 e4) e5 e6
      omega
    · have := hnew f1 (min b1 e3) e6
      have := hold f2 (mout b2 e4)
      omega
    · have := hold f1 (mout b1 e3)
      have := hnew f2 (min b2 e4) (e5 ▸ e6)
      omega
    · exact sA.hr.inj b b' o o' mb mb' f1 f2 (mout b1 e3) (mout b2 e4) e5 e6
  · unfold joinM at e
    by_cases hb : n ≤ b ∧ b < n + n1
    · exact .inr hb
    · rw [if_neg hb] at e
      exact .inl e
  · rcases cls e1 with ⟨c1, s1, z1, b1, f1, rfl⟩ | ⟨b1, f1⟩
    · have := hnew f1 (min b1 e2) (e3 ▸ e4)
      omega
    · exact sA.dom r hr' ⟨b, o, mb, f1, mout b1 e2, e3, e4⟩
theorem own_post (hr : HR C m Z h w) {ids : List Nat} (hd : ∀ b ∈ ids, ∃ cs es fz, h b = some (.cells cs es fz)) (hf : ∀ b, n ≤ b → b < n + n1 → m b = none)
    (s : Step C noMap (Zof Z m ids) noHeap 0 w m1 Z1 h1 n1 w1) {v : AV} {u : Value} (hu : RV Z1 w1 v m1 u) :
    ∃ m' Z', Step C m Z h n w m' Z' (joinH (shutC h ids v h1) n n1 h1) (n + n1) w1 ∧ RV Z' w1 (v.sh n) m' u := by
  have hk : ∀ r, r < w.heap.size → w1.heap[r]? = w.heap[r]? := fun r hr' => s.frame r hr' no_own
  have hm1 : ∀ b x, m1 b = some x → b < n1 := fun b x e => by
    rcases s.mnew b (by simp [e]) with e | e
    · simp [noMap] at e
    · exact e.2
  have up : ∀ b x, m1 b = some x → joinM m n n1 m1 (n + b) = some x := fun b x e => by
    have := hm1 b x e
    unfold joinM
    rw [if_pos ⟨by omega, by omega⟩, Nat.add_sub_cancel_left]
    exact e
  have new : ∀ b o mb, h1 b = some o → m1 b = some mb → ¬ Z1 mb.rb → w.heap.size ≤ mb.rb := fun b o mb e1 e2 e3 => by
    rcases Nat.lt_or_ge mb.rb w.heap.size with hlt | hge
    · exact absurd (s.dom _ hlt ⟨b, o, mb, e1, e2, rfl, e3⟩) no_own
    · exact hge
  unfold shutC
  by_cases hc : Closed v h1
  · rw [if_pos hc]
    obtain ⟨c1, c2⟩ := hc
    have sA : Step C m Z h n w m Z h n w1 := Step.quiet hr s.size hk s.os s.tape s.output
    refine ⟨joinM m n n1 m1, Z, Step.join hr sA (fun b o e => ⟨o, e⟩) hf hm1 (fun b cs es fz e => ?_) (fun b b' o o' mb mb' e1 e2 e3 e4 e5 e6 => ?_), RV_sh up v (RV_cl w1 Z v c1 hu)⟩
    · obtain ⟨mb, c, e', us, q1, q2, q3, q4, q5, q6, q7⟩ := s.hr.cells b cs es fz e
      obtain ⟨d1, d2⟩ := c2 b cs es fz e
      have hz1 : ¬ Z1 mb.rb := fun e => by rw [d1] at q7; exact absurd (q7.2 e) (by decide)
      have hz : ¬ Z mb.rb := fun e => hz1 (s.zext _ (.inl e))
      exact ⟨mb, c, e', us, q1, q2, q3, q4, q5, RVs_cl w1 Z cs d2 q6, ⟨fun e => by rw [d1] at e; exact absurd e (by decide), fun e => absurd e hz⟩, fun _ => new b _ mb e q1 hz1⟩
    · refine s.hr.inj b b' o o' mb mb' e1 e2 e3 e4 e5 fun hz1 => ?_
      cases o with
      | cells cs es fz =>
        obtain ⟨mb2, c, e', us, q1, q2, q3, q4, q5, q6, q7⟩ := s.hr.cells b cs es fz e1
        rw [e3] at q1
        injection q1 with q1
        subst q1
        obtain ⟨d1, d2⟩ := c2 b cs es fz e1
        rw [d1] at q7
        exact absurd (q7.2 hz1) (by decide)
      | loop L =>
        obtain ⟨mb2, r, q1, q2, q3, _⟩ := s.hr.loops b L e1
        rw [e3] at q1
        injection q1 with q1
        subst q1
        exact q3 hz1
  · rw [if_neg hc]
    have sA : Step C m Z h n w m Z1 (shutIds h ids) n w1 := Step.shut hr hd s.size hk (fun r e => s.zext r e) (fun r e => by
      rcases s.znew r e with e | e | e
      · exact .inl e
      · exact .inr e
      · exact absurd e no_own) s.hr.zlt s.os s.tape s.output
    refine ⟨joinM m n n1 m1, Z1, Step.join hr sA (fun b o e => ?_) hf hm1 (fun b cs es fz e => ?_) s.hr.inj, RV_sh up v hu⟩
    · unfold shutIds at e
      split at e
      · cases hb : h b with
        | none => rw [hb] at e; cases e
        | some x => exact ⟨x, rfl⟩
      · exact ⟨o, e⟩
    · obtain ⟨mb, c, e', us, q1, q2, q3, q4, q5, q6, q7⟩ := s.hr.cells b cs es fz e
      exact ⟨mb, c, e', us, q1, q2, q3, q4, q5, q6, q7, new b _ mb e q1⟩
end
end Go.Proofs.Bv
namespace Go.Proofs.Bv
open Go
section
variable {C : Cfg} {m m' : AMap} {Z Z' : Nat → Prop} {h h' : Heap} {n n' nt w0 : Nat} {w w' : World}
theorem loadAt_ptr (hr : HR C m Z h w) {P : Program} {t : Nat} {a v : AV} {x : Value} (ha : RV Z w a m x) (hv : loadAt P h t a = some v) :
    ∃ p u, x = .pointer (some p) ∧ (loadVar t p).run P w = .ok u w ∧ RV Z w v m u := by
  cases a <;> simp only [Bv.loadAt] at hv <;> try (cases hv; done)
  case ptr b off =>
    split at hv
    · rename_i cs es fz hb
      simp only [RV] at ha
      obtain ⟨mb, h1, rfl⟩ := ha
      obtain ⟨u, h2, h3⟩ := loadA_sound (hr.reads hb h1) hv
      exact ⟨_, u, rfl, h2, h3⟩
    · cases hv
  case pptr cs off =>
    simp only [RV] at ha
    obtain ⟨blk, base, us, rfl, hz, h1, h2⟩ := ha
    obtain ⟨u, h3, h4⟩ := loadA_sound (m := m) (Reads.none ⟨us, h1, h2⟩) hv
    exact ⟨_, u, rfl, h3, h4⟩
def getRes (tm : Array Value) : ResultVar → Sem Value
  | .tmp t => pure (tm.getD t undef)
  | .cell a t => do loadVar t (← asAddr (tm.getD a undef))
theorem rets_sound (hr : HR C m Z h w) {T : Nat → AV} {tm : Array Value} (hT : RT Z w nt T m tm) : (l : List ResultVar) → {vs : List AV} → retsA C T h l = some vs →
    ∃ us : List Value, (l.mapM (getRes tm)).run C.P w = .ok us w ∧ RVl Z w vs m us
  | [], vs, hv => by
    simp only [retsA, Option.some.injEq] at hv
    subst hv
    exact ⟨[], by simp, by simp [RVl]⟩
  | x :: l, vs, hv => by
    simp only [retsA] at hv
    split at hv <;> try (cases hv; done)
    rename_i v vs' h1 h2
    injection hv with hv; subst hv
    obtain ⟨us, h3, h4⟩ := rets_sound hr hT l h2
    cases x with
    | tmp t =>
      simp only [ret1, Option.some.injEq] at h1
      subst h1
      exact ⟨tm.getD t undef :: us, by simp only [List.mapM_cons, getRes, Sem.run_bind, Sem.run_pure, Result.andThen_ok, h3], ⟨_, _, rfl, hT.2 t, h4⟩⟩
    | cell a t =>
      simp only [ret1] at h1
      obtain ⟨p, u, h5, h6, h7⟩ := loadAt_ptr hr (hT.2 a) h1
      exact ⟨u :: us, by simp only [List.mapM_cons, getRes, Sem.run_bind, Sem.run_pure, Result.andThen_ok, h5, asAddr, h6, h3], ⟨_, _, rfl, h7, h4⟩⟩
theorem results_sound (hr : HR C m Z h w) {T : Nat → AV} {tm : Array Value} (hT : RT Z w nt T m tm) (fn : Func) {vs : List AV} (hv : retsA C T h fn.results.toList = some vs) :
    ∃ u, (results fn tm).run C.P w = .ok u w ∧ RV Z w (one1 vs) m u := by
  obtain ⟨us, h1, h2⟩ := rets_sound hr hT _ hv
  have h3 : (results fn tm).run C.P w = .ok (if h : us.toArray.size = 1 then us.toArray[0] else .tuple us.toArray) w := by
    have e : results fn tm = (do let vs ← fn.results.mapM (getRes tm); pure (if h : vs.size = 1 then vs[0] else .tuple vs) : Sem Value) := rfl
    rw [e, Sem.run_bind, Array.mapM_eq_mapM_toList, Sem.run_map]
    simp only [h1, Result.andThen_ok, Sem.run_pure]
  refine ⟨_, h3, ?_⟩
  have hl := RVl_len h2
  match vs, us, h2, hl with
  | [], us, h2, hl =>
    obtain rfl : us = [] := List.eq_nil_of_length_eq_zero (by simpa using hl)
    simp [one1, RV, RVl]
  | [v], us, h2, hl =>
    simp only [RVl] at h2
    obtain ⟨u, r, rfl, h4, rfl⟩ := h2
    simpa [one1] using h4
  | v :: v' :: vs, us, h2, hl =>
    have : ¬ us.toArray.size = 1 := by simp at hl ⊢; omega
    rw [dif_neg this]
    simp only [one1, RV]
    exact ⟨us, rfl, h2⟩
def Poked (rs : List Nat) (w w' : World) : Prop := w'.heap.size = w.heap.size ∧ (∀ r, r ∉ rs → w'.heap[r]? = w.heap[r]?) ∧ w'.os = w.os ∧ w'.tape = w.tape ∧ w'.output = w.output
theorem Step.poke {w1 w2 : World} (s : Step C m Z h n w m' Z' h' n' w1) {rs : List Nat} (hp : Poked rs w1 w2) (hrs : ∀ r ∈ rs, w.heap.size ≤ r ∧ ¬ Own Z' h' m' r ∧ ¬ Z' r) : Step C m Z h n w m' Z' h' n' w2 := by
  obtain ⟨p1, p2, p3, p4, p5⟩ := hp
  have hk : ∀ r, Z' r → w2.heap[r]? = w1.heap[r]? := fun r e => p2 r fun e' => (hrs r e').2.2 e
  have ho : ∀ {b o mb}, h' b = some o → m' b = some mb → ¬ Z' mb.rb → w2.heap[mb.rb]? = w1.heap[mb.rb]? := fun e1 e2 e3 => p2 _ fun e' => (hrs _ e').2.1 ⟨_, _, _, e1, e2, rfl, e3⟩
  refine ⟨⟨fun b cs es fz e => ?_, fun b L e => ?_, s.hr.inj, fun r e => by rw [p1]; exact s.hr.zlt r e, fun g cs e => RV_mono (fun _ h => h) hk _ (fun _ _ h => h) (s.hr.glob g cs e)⟩, s.mext, s.mnew, s.zext, s.znew, s.nle, by rw [p1]; exact s.size,
    fun r hr hno => by rw [p2 r fun e => by have := (hrs r e).1; omega]; exact s.frame r hr hno, s.dom, p3.trans s.os, p4.trans s.tape, p5.trans s.output⟩
  · obtain ⟨mb, c, e', us, h1, h2, h3, h4, h5, h6, h7⟩ := s.hr.cells b cs es fz e
    refine ⟨mb, c, e', us, h1, h2, h3, ?_, h5, RVs_mono (fun _ h => h) hk _ (fun _ _ h => h) h6, h7⟩
    rw [← h4]
    by_cases hz : Z' mb.rb
    · exact hk _ hz
    · exact ho e h1 hz
  · obtain ⟨mb, r, h1, h2, h3, h4, h5, h6, h7, h8⟩ := s.hr.loops b L e
    exact ⟨mb, r, h1, by rw [← h2]; exact ho e h1 h3, h3, h4, h5, h6, RT_mono (fun _ h => h) hk (fun _ _ h => h) h7, h8⟩
theorem leaves_marks {F : Fence} {k : Nat} {P : Program} {fn : Func} {tm : Array Value} {R : Ending → World → Prop} : (rs : List Nat) → {w1 : World} → rs.Nodup → (∀ r ∈ rs, w1.heap[r]? = some (.deferred (some []))) →
    (∀ w2, Poked rs w1 w2 → ∃ v, (results fn tm).run P w2 = .ok v w2 ∧ R (.returned v) w2) → LeavesInM F k P fn tm R (rs.map markOf) .returning w1
  | [], w1, _, _, hq => hq w1 ⟨rfl, fun _ _ => rfl, rfl, rfl, rfl⟩
  | r :: rs, w1, nd, hrs, hq => by
    have h1 := hrs r (by simp)
    obtain ⟨nd1, nd2⟩ := List.nodup_cons.1 nd
    refine ⟨by simp, .inl ⟨r, { w1 with heap := w1.heap.setIfInBounds r (.deferred none) }, rfl, ?_, ?_⟩⟩
    · simp [Instr.takeDeferred, getObj, setObj, Sem.run, h1]
    · refine leaves_marks rs nd2 (fun q hq' => ?_) fun w2 hp => hq w2 ?_
      · rw [heap_set_ne _ (fun e => nd1 (by rw [← e]; exact hq'))]
        exact hrs q (by simp [hq'])
      · obtain ⟨p1, p2, p3, p4, p5⟩ := hp
        refine ⟨by rw [p1, heap_set_size], fun q hq' => ?_, p3, p4, p5⟩
        simp only [List.mem_cons, not_or] at hq'
        rw [p2 q hq'.2, heap_set_ne _ hq'.1]
def NoNum (C : Cfg) : Prop := ∀ (f : Nat) (fn : Func), C.P.funcs[f]? = some fn → (fn.name == "runtime.NumGoroutine") = false
theorem fcall_sound {call : CallF} {fc : FcF} {dr : Nat → Array Oper → St → Option St} (hcall : CallOk C call) (hfc : FcOk C fc) (hdr : DrOk C dr) (hnn : NoNum C) {k : Nat} : FcOk C (fcall C call fc dr k) := by
  intro f args h n v h' n' hv hle m Z w us hr hus hf
  unfold fcall at hv
  split at hv <;> try (cases hv; done)
  rename_i fn hfn
  split at hv <;> try (cases hv; done)
  rename_i c hc
  split at hv <;> try (cases hv; done)
  rename_i hok
  obtain ⟨hlen, hok⟩ := hok
  have hul := RVl_len hus
  have hnf := hnn f fn hfn
  simp only [beq_eq_false_iff_ne, ne_eq] at hnf
  refine ⟨by simp [callFunc, hfn, hnf, hc], ?_⟩
  refine callsIn_of_wp_marks (F := Fence.wide) hfn hc trivial ?_ rfl
  have hT : RT Z w fn.ntmps (argsT args) m (us.toArray ++ Array.replicate (fn.ntmps - us.toArray.size) undef) := by
    refine ⟨by simp; omega, fun t => ?_⟩
    unfold argsT
    cases ha : args[t]? with
    | none => simp only [Option.getD_none, RV]
    | some a =>
      obtain ⟨u, h1, h2⟩ := RVl_get hus t ha
      have hlt : t < us.length := by
        rcases Nat.lt_or_ge t us.length with h | h
        · exact h
        · rw [List.getElem?_eq_none h] at h1; cases h1
      have : (us.toArray ++ Array.replicate (fn.ntmps - us.toArray.size) undef).getD t undef = u := by
        rw [Array.getD_eq_getD_getElem?, Array.getElem?_append_left (by simpa using hlt)]
        simp [h1]
      rw [this]
      simpa using h2
  have hD : DI w.heap.size m Z h w [] := ⟨[], rfl, List.nodup_nil, by simp⟩
  have fin : ∀ {e s vs}, vcode C call fc dr k fn.ntmps false c ⟨argsT args, h, n⟩ = some (e, s) → (e = .norm ∨ e = .ret) → retsA C s.T s.h fn.results.toList = some vs → (one1 vs, s.h, s.n) = (v, h', n') →
      c.wpIn Fence.wide 0 C.P (bodyPostM Fence.wide 0 C.P fn fun e w' => ∃ u m' Z', e = .returned u ∧ Step C m Z h n w m' Z' h' n' w' ∧ RV Z' w' v m' u) { tmps := us.toArray ++ Array.replicate (fn.ntmps - us.toArray.size) undef, defers := [] } w := by
    intro e s vs hvc he hrs heq
    injection heq with e1 heq; injection heq with e2 e3; subst e1; subst e2; subst e3
    refine vcode_sound (r := none) hcall hfc hdr (fun _ => rfl) c hok hvc _ hr hT hD (Nat.le_refl _) hf fun a' w1 m1 Z1 s1 hT1 hD1 => ?_
    have key : LeavesInM Fence.wide 0 C.P fn a'.tmps (fun e w' => ∃ u m' Z', e = .returned u ∧ Step C m Z h n w m' Z' s.h s.n w' ∧ RV Z' w' (one1 vs) m' u) a'.defers .returning w1 := by
      obtain ⟨rs, e, nd, hrs'⟩ := hD1
      rw [e]
      refine leaves_marks rs nd (fun r hr' => (hrs' r hr').2.2.1) fun w2 hp => ?_
      have s2 := s1.poke hp fun r hr' => ⟨(hrs' r hr').1, (hrs' r hr').2.2.2⟩
      have hT2 : RT Z1 w2 fn.ntmps s.T m1 a'.tmps := RT_mono (fun _ h => h) (fun r e => hp.2.1 r fun e' => (hrs' r e').2.2.2.2 e) (fun _ _ h => h) hT1
      obtain ⟨u, h1, h2⟩ := results_sound s2.hr hT2 fn hrs
      exact ⟨u, h1, u, m1, Z1, rfl, s2, h2⟩
    rcases he with rfl | rfl
    · exact key
    · exact key
  split at hv
  · rename_i s hvc
    simp only [Option.map_eq_some_iff] at hv
    obtain ⟨vs, h1, h2⟩ := hv
    exact fin hvc (.inl rfl) h1 h2
  · rename_i s hvc
    simp only [Option.map_eq_some_iff] at hv
    obtain ⟨vs, h1, h2⟩ := hv
    exact fin hvc (.inr rfl) h1 h2
  · cases hv
def FyOk (C : Cfg) (fy : Nat → List AV → Heap → Nat → Out) : Prop :=
  ∀ (l : Nat) (args : List AV) (h : Heap) (n : Nat) (v : AV) (h' : Heap) (n' : Nat), fy l args h n = some (v, h', n') → n ≤ n' →
    ∀ (m : AMap) (Z : Nat → Prop) (w : World) (mb : MB) (us : List Value), HR C m Z h w → m l = some mb → RVl Z w args m us → (∀ b, n ≤ b → b < n' → m b = none) →
    ∃ fnid tm as bd, (Instr.yield mb.rb us.toArray).run C.P w = .ok (.round mb.rb fnid tm as bd) w ∧
      RoundIn Fence.wide 0 C.P mb.rb fnid tm as bd w fun e w' => ∃ u m' Z', e = .returned u ∧ Step C m Z h n w m' Z' h' n' w' ∧ RV Z' w' v m' u
theorem setParams_sound : (ts : List Tmp) → (as : List AV) → {T T' : Nat → AV} → {us : List Value} → {tm : Array Value} → setParams nt ts as T = some T' → RVl Z w as m us → RT Z w nt T m tm →
    us.length = ts.length ∧ RT Z w nt T' m ((ts.zip us).foldl (fun (tmps : Array Value) (x : Tmp × Value) => tmps.setIfInBounds x.1 x.2) tm)
  | [], [], T, T', us, tm, hv, hu, hT => by
    simp only [setParams, Option.some.injEq] at hv
    subst hv
    simp only [RVl] at hu
    subst hu
    exact ⟨rfl, hT⟩
  | t :: ts, a :: as, T, T', us, tm, hv, hu, hT => by
    simp only [setParams] at hv
    split at hv <;> try (cases hv; done)
    rename_i ht
    simp only [RVl] at hu
    obtain ⟨u, us, rfl, h1, h2⟩ := hu
    have hT1 : RT Z w nt (upd T t a) m (tm.setIfInBounds t u) := by
      have := RT.put (a := { tmps := tm, defers := [] }) (dst := some t) (T' := upd T t a) hT h1 (by simp [putT, ht])
      exact this
    obtain ⟨h3, h4⟩ := setParams_sound ts as hv h2 hT1
    exact ⟨by simp [h3], by simpa using h4⟩
  | [], _ :: _, _, _, _, _, hv, _, _ => by simp [setParams] at hv
  | _ :: _, [], _, _, _, _, hv, _, _ => by simp [setParams] at hv
theorem run_getLoop {P : Program} {l : Nat} {r : Loop} (hl : w.heap[l]? = some (.loop r)) : (Instr.getLoop l).run P w = .ok r w := by
  simp [Instr.getLoop, getObj, Sem.run, hl]
theorem run_setLoop {P : Program} {l : Nat} {r : Loop} (o : Obj) (hl : w.heap[l]? = some (.loop r)) : (setObj l o).run P w = .ok () { w with heap := w.heap.setIfInBounds l o } := by
  simp [setObj, Sem.run, hl]
theorem Step.record (hr : HR C m Z h w) {b : Nat} {mb : MB} {L L' : LoopA} {r : Loop} (hb : h b = some (.loop L)) (hm : m b = some mb) (hl : w.heap[mb.rb]? = some (.loop r)) (hz : ¬ Z mb.rb)
    (h1 : r.params = L.params.toArray) (h2 : r.assign = L.assign) (h3 : r.body = L.body) (h4 : RT Z w L.nt L.T m r.tmps) (e : L' = { L with open_ := L'.open_, jump := L'.jump }) (st : LoopState) (hst : st = stOf L') :
    Step C m Z h n w m Z (upd h b (some (.loop L'))) n { w with heap := w.heap.setIfInBounds mb.rb (.loop { r with state := st, pending := L'.jump }) } := by
  refine Step.write (bk' := .loop L') hr hb hm hz (heap_set_size _ _) (fun q hne => heap_set_ne _ hne) rfl rfl rfl ?_
  have hlt : mb.rb < w.heap.size := (Array.getElem?_eq_some_iff.1 hl).1
  have e1 : L'.params = L.params := by rw [e]
  have e2 : L'.assign = L.assign := by rw [e]
  have e3 : L'.body = L.body := by rw [e]
  have e4 : L'.T = L.T := by rw [e]
  have e5 : L'.nt = L.nt := by rw [e]
  exact ⟨{ r with state := st, pending := L'.jump }, by simp [hlt], by rw [e1]; exact h1, by rw [e2]; exact h2, by rw [e3]; exact h3, by rw [e4, e5]; exact h4, hst, rfl⟩
theorem vyield_sound {call : CallF} {fc : FcF} {dr : Nat → Array Oper → St → Option St} (hcall : CallOk C call) (hfc : FcOk C fc) (hdr : DrOk C dr) {k : Nat} : FyOk C (vyield C call fc dr k) := by
  intro l args h n v h' n' hv hle m Z w mb us hr hml hus hf
  unfold vyield at hv
  split at hv <;> try (cases hv; done)
  rename_i L hL
  split at hv <;> try (cases hv; done)
  rename_i hok
  simp only [Bool.and_eq_true] at hok
  obtain ⟨⟨hop, hok1⟩, hok2⟩ := hok
  split at hv <;> try (cases hv; done)
  rename_i T hsp
  split at hv <;> try (cases hv; done)
  rename_i s1 hv1
  split at hv <;> try (cases hv; done)
  rename_i L1 hL1
  split at hv <;> try (cases hv; done)
  rename_i hop1
  simp only [Bool.and_eq_true, Option.isNone_iff_eq_none] at hop1
  split at hv <;> try (cases hv; done)
  rename_i e2 s2 hv2
  split at hv <;> try (cases hv; done)
  rename_i L2 hL2
  obtain ⟨mb', r, q1, q2, q3, q4, q5, q6, q7, q8, q9⟩ := hr.loops l L hL
  obtain rfl : mb = mb' := by rw [hml] at q1; injection q1
  obtain ⟨hlen, hT⟩ := setParams_sound L.params args hsp hus q7
  have hn1 : n ≤ s1.n := vcode_mono hdr.1 L.assign hv1
  have hn2 : s1.n ≤ s2.n := by have := vcode_mono hdr.1 L.body hv2; exact this
  have hn3 : s2.n = n' := by
    cases e2 <;> (injection hv with hv; injection hv with _ hv; injection hv)
  refine ⟨r.fn, (L.params.zip us).foldl (fun (tmps : Array Value) (x : Tmp × Value) => tmps.setIfInBounds x.1 x.2) r.tmps, r.assign, r.body, ?_, ?_⟩
  · have h1 : us.toArray.size = r.params.size := by rw [q4]; simpa using hlen
    simp only [Instr.yield, Sem.run_bind, run_getLoop q2, Result.andThen_ok, h1, ne_eq, not_true, if_false, Sem.run_pure, q4]
    rw [← Array.foldl_toList]
    simp
  · rw [q5, q6]
    refine roundIn_of_wpIn (F := Fence.wide) trivial ?_
    have hD : DI w.heap.size m Z h w [] := ⟨[], rfl, List.nodup_nil, by simp⟩
    refine vcode_sound (r := some mb.rb) (rd := true) hcall hfc hdr (fun h => by cases h) L.assign hok1 hv1 _ hr hT hD (Nat.le_refl _) (fun b hb1 hb2 => hf b hb1 (by omega)) fun a1 w1 m1 Z1 st1 hT1 hD1 => ?_
    obtain ⟨mb1, r1, p1, p2, p3, p4, p5, p6, p7, p8, p9⟩ := st1.hr.loops l L1 hL1
    obtain rfl : mb = mb1 := by have := st1.mext l _ hml; rw [this] at p1; injection p1
    have hst1 : r1.state = .ready := by rw [p8]; simp [stOf, hop1.1]
    let w2 : World := { w1 with heap := w1.heap.setIfInBounds mb.rb (.loop { r1 with state := .busy }) }
    have hbr : (Instr.beginRound mb.rb).run C.P w1 = .ok () w2 := by
      simp only [Instr.beginRound, Sem.run_bind, run_getLoop p2, Result.andThen_ok, run_setLoop _ p2, hst1]
      rfl
    have hpend : r1.pending = none := by rw [p9]; exact hop1.2
    have st2 : Step C m1 Z1 s1.h s1.n w1 m1 Z1 (upd s1.h l (some (.loop { L1 with open_ := false }))) s1.n w2 := by
      have := Step.record (n := s1.n) (L' := { L1 with open_ := false }) st1.hr hL1 (st1.mext l _ hml) p2 p3 p4 p5 p6 p7 rfl .busy (by simp [stOf, hop1.2])
      have hrec : ({ r1 with state := .busy, pending := L1.jump } : Loop) = { r1 with state := .busy } := by rw [hop1.2, ← hpend]
      rw [hrec] at this
      exact this
    refine ⟨w2, hbr, ?_⟩
    have hf2 : ∀ b, s1.n ≤ b → b < s2.n → m1 b = none := fun b hb1 hb2 => st1.fresh (n'' := s2.n) (fun b hb1 hb2 => hf b hb1 (by omega)) b hb1 hb2
    have hT2 := st2.rt st1.hr hT1
    have hD2 := hD1.step st2
    refine vcode_sound (r := some mb.rb) (rd := true) hcall hfc hdr (fun h => by cases h) L.body hok2 hv2 _ st2.hr hT2 hD2 (Nat.le_trans st1.size st2.size) hf2 fun a3 w3 m3 Z3 st3 hT3 hD3 => ?_
    have st123 := (st1.trans st2).trans st3
    obtain ⟨mb3, r3, x1, x2, x3, x4, x5, x6, x7, x8, x9⟩ := st3.hr.loops l L2 hL2
    have hm3 := st123.mext l _ hml
    obtain rfl : mb = mb3 := by rw [hm3] at x1; injection x1
    have fin : ∀ (jump : Option Code) (b : Bool), jump.isNone = b → (∀ (o : Bool) (v : AV), o = b → ∃ w4, (Instr.endRound mb.rb jump).run C.P w3 = .ok (.bool b) w4 ∧
        Step C m Z h n w m3 Z3 (upd s2.h l (some (.loop { L2 with open_ := b, jump := jump }))) s2.n w4) := by
      intro jump b hb o v _
      refine ⟨_, ?_, st123.trans (Step.record (n := s2.n) (L' := { L2 with open_ := b, jump := jump }) st3.hr hL2 hm3 x2 x3 x4 x5 x6 x7 rfl (if jump.isNone then .ready else .done) ?_)⟩
      · simp only [Instr.endRound, Sem.run_bind, run_getLoop x2, Result.andThen_ok, run_setLoop _ x2, Sem.run_pure, hb]
      · subst hb
        cases jump <;> rfl
    cases e2 with
    | norm =>
      injection hv with hv; injection hv with hv1 hv; injection hv with hv2 hv3; subst hv1; subst hv2; subst hv3
      obtain ⟨w4, y1, y2⟩ := fin none true rfl true .nilS rfl
      exact ⟨_, w4, y1, _, m3, Z3, rfl, y2, by simp [RV, plain]⟩
    | ret =>
      injection hv with hv; injection hv with hv1 hv; injection hv with hv2 hv3; subst hv1; subst hv2; subst hv3
      obtain ⟨w4, y1, y2⟩ := fin (some .ret) false rfl false .nilS rfl
      exact ⟨_, w4, y1, _, m3, Z3, rfl, y2, by simp [RV, plain]⟩
    | exit id =>
      injection hv with hv; injection hv with hv1 hv; injection hv with hv2 hv3; subst hv1; subst hv2; subst hv3
      obtain ⟨w4, y1, y2⟩ := fin (some (.exit id)) false rfl false .nilS rfl
      exact ⟨_, w4, y1, _, m3, Z3, rfl, y2, by simp [RV, plain]⟩
end
end Go.Proofs.Bv
