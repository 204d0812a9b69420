/-
  A part of the proof of CliLettersUptoCardSaid: CkTop.
  Conditions: those that each part names.
-/
import Derived.Test.YtplbncajfignlaaGreatDoorCl19
import Derived.Lib.LaidIn
import Derived.Lib.LaidU8T
import Derived.Deep.DeepHandedRow
import Derived.Deep.DeepWitnessRowRef
import Derived.ProofKit
import Derived.Carry
import Derived.WalkKit
import Derived.Shelf.Vars
import Derived.Test.YtplbncajfignlaaGreatDoorRows
set_option linter.unusedSimpArgs false
set_option linter.unusedVariables false
namespace Go.Proofs.Bv
open Go Go.RowKit Go.ChangeShapes
open Go.Proofs.YtplbncajfignlaaGreatDoor
set_option maxRecDepth 100000 in
theorem tabsOf {W : World} (hL : laidMetH Tryz.prog Rows.cliOnceRow.laid W) : Lib.Utf8Tabs 3 4 W :=
  utf8Tabs_of_readsT (P := Tryz.prog) (ρ := Tryz.lays197_ren) ⟨Tryz.lays197.t5, Tryz.lays197.t119, Tryz.lays197.t138, Tryz.lays197.t139⟩ ⟨by kernel_rfl, by kernel_rfl, by kernel_rfl, by kernel_rfl, by kernel_rfl, by kernel_rfl, by kernel_rfl⟩
    (Lib.laidMet.reads hL (.tail _ (.head _))) (Lib.laidMet.reads hL (.head _))
theorem lits (f : Nat → Value) (hf : ∀ i, plain (f i) = true) {W : World} {Z : Nat → Prop} : (n : Nat) → (k : Nat) → RVs Z W ((List.range' k n).map fun i => .sc (f i)) noMap ((List.range' k n).map f)
  | 0, k => by simp [RVs]
  | n + 1, k => by
    simp only [List.range'_succ, List.map_cons, RVs, RV]
    exact ⟨f k, _, rfl, rfl, ⟨rfl, hf k⟩, lits f hf n (k + 1)⟩
theorem glob_of {W : World} {g n : Nat} {f : Nat → Value} (hf : ∀ i, plain (f i) = true) (hn : 0 < n) (hc : ∀ i, i < n → W.cell? ⟨g, i, none⟩ = some (f i)) :
    RV (Old W) W (.pptr ((List.range n).map fun i => .sc (f i)) 0) noMap (.pointer (some ⟨g, 0, none⟩)) := by
  simp only [RV]
  refine ⟨g, 0, (List.range n).map f, rfl, (cell_spot (hc 0 hn)).2, ?_, ?_⟩
  · intro i hi
    have hi' : i < n := by simpa using hi
    rw [Nat.zero_add, hc i hi']
    simp [hi']
  · rw [List.range_eq_range']
    exact lits f hf n 0
def accT (i : Nat) : Value := if i % 2 = 0 then .int .u8 (Lib.accLo (i / 2)) else .int .u8 (Lib.accHi (i / 2))
theorem acc_list : ((List.range 16).flatMap fun i => [AV.sc (.int .u8 (Lib.accLo i)), .sc (.int .u8 (Lib.accHi i))]) = (List.range 32).map fun i => .sc (accT i) := rfl
set_option maxRecDepth 100000 in
theorem hr_of {W : World} (hT : Lib.Utf8Tabs 3 4 W) : HR (Cf Gu8) noMap (Old W) noHeap W := by
  refine ⟨fun b cs es fz e => by simp [noHeap] at e, fun b L e => by simp [noHeap] at e, fun b b' o o' mb mb' e => by simp [noHeap] at e, fun r h => h, ?_⟩
  intro g cs hg
  have hg' : Gu8 g = some cs := hg
  match g, hg' with
  | 3, hg' =>
    injection hg' with hg'
    rw [← hg']
    exact glob_of (f := fun c => .int .u8 (Lib.firstT c)) (fun _ => rfl) (by omega) hT.1
  | 4, hg' =>
    injection hg' with hg'
    rw [← hg', acc_list]
    refine glob_of (f := accT) (fun i => by unfold accT; split <;> rfl) (by omega) fun i hi => ?_
    unfold accT
    split
    · have := (hT.2 (i / 2) (by omega)).1
      rw [show 2 * (i / 2) = i by omega] at this
      exact this
    · have := (hT.2 (i / 2) (by omega)).2
      rw [show 2 * (i / 2) + 1 = i by omega] at this
      exact this
theorem frz_true {h : Heap} {k : Nat} {a : AV} {v : Value} (e : (frz h (k + 1) a).map (·.1) = some (.sc v)) : a = .sc v := by
  cases a with
  | sc u => simpa [frz, AV.pur] using e
  | psl cs len => simp [frz, AV.pur] at e
  | pptr cs off => simp [frz, AV.pur] at e
  | nilS => simp [frz, AV.pur] at e
  | emp => simp [frz, AV.pur] at e
  | junk => simp [frz, AV.pur] at e
  | osl b off len =>
    simp only [frz, AV.pur, Bool.false_eq_true, if_false, Option.map_eq_some_iff] at e
    obtain ⟨x, h1, h2⟩ := e
    split at h1 <;> try (cases h1; done)
    split at h1 <;> try (cases h1; done)
    obtain ⟨y, _, rfl⟩ := Option.map_eq_some_iff.1 h1
    cases h2
  | ptr b off =>
    simp only [frz, AV.pur, Bool.false_eq_true, if_false, Option.map_eq_some_iff] at e
    obtain ⟨x, h1, h2⟩ := e
    split at h1 <;> try (cases h1; done)
    obtain ⟨y, _, rfl⟩ := Option.map_eq_some_iff.1 h1
    cases h2
  | fn f caps =>
    obtain ⟨x, h1, h2⟩ := Option.map_eq_some_iff.1 e
    simp only [frz] at h1
    split at h1
    · injection h1 with h1; subst h1; cases h2
    · cases f <;> simp only [Option.map_eq_some_iff] at h1 <;> first | (cases h1; done) | (obtain ⟨y, _, rfl⟩ := h1; cases h2)
  | ifc t v =>
    obtain ⟨x, h1, h2⟩ := Option.map_eq_some_iff.1 e
    simp only [frz] at h1
    split at h1
    · injection h1 with h1; subst h1; cases h2
    · obtain ⟨y, _, rfl⟩ := Option.map_eq_some_iff.1 h1; cases h2
  | agg cs =>
    obtain ⟨x, h1, h2⟩ := Option.map_eq_some_iff.1 e
    simp only [frz] at h1
    split at h1
    · injection h1 with h1; subst h1; cases h2
    · obtain ⟨y, _, rfl⟩ := Option.map_eq_some_iff.1 h1; cases h2
  | tup cs =>
    obtain ⟨x, h1, h2⟩ := Option.map_eq_some_iff.1 e
    simp only [frz] at h1
    split at h1
    · injection h1 with h1; subst h1; cases h2
    · obtain ⟨y, _, rfl⟩ := Option.map_eq_some_iff.1 h1; cases h2
set_option maxRecDepth 100000 in
theorem law_calls6 {f : FuncId} {args : List AV} {us : List Value} {W : World} (hp : Pc (C6 Gu8) f args (.sc (.bool true))) (hT : Lib.Utf8Tabs 3 4 W) (hus : RVl (Old W) W args noMap us) :
    Calls Tryz.prog f us.toArray W fun e W' => e = .returned (.bool true) ∧ Below W.heap.size W W' := by
  obtain ⟨k, hk⟩ := hp
  unfold pcall at hk
  split at hk <;> try (cases hk; done)
  rename_i r h n he
  have := frz_true hk
  subst this
  refine (lv_calls (C := C6 Gu8) (nn6 _) orcOk6 mix he (HR_cfg (C := Cf Gu8) (C' := C6 Gu8) rfl (hr_of hT)) hus).mono ?_
  rintro e w' ⟨u, m', Z', rfl, s, hu⟩
  simp only [RV] at hu
  rw [hu.1]
  exact ⟨rfl, ⟨s.os, s.tape, s.output, s.size, fun r hr => s.frame r hr no_own⟩⟩
end Go.Proofs.Bv
