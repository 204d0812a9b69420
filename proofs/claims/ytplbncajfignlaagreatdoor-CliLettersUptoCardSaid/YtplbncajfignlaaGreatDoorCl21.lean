/-
  A part of the proof of CliLettersUptoCardSaid: CkCardCliLetters.
  Conditions: those that each part names.
-/
import Derived.Test.YtplbncajfignlaaGreatDoorCl20
import Derived.Test.YtplbncajfignlaaGreatDoorCards
import Derived.Test.YtplbncajfignlaaGreatDoorTie
import Derived.SevenTiedAt
set_option linter.unusedSimpArgs false
set_option linter.unusedVariables false
namespace Go.Proofs.YtplbncajfignlaaGreatDoor
open Go.ChangeShapes Go.WideShapes Go.ChangeAt Go.RowKit Go.Lib Go.Proofs.Bv
theorem own0 : ownKnob Tryz.prog.godebug = none := by kernel_rfl
theorem laidOut : laidOutB Tryz.prog = true := by kernel_rfl
noncomputable def laidWorld (os : Os) : World :=
  let w0 := World.holding Tryz.prog os ⟨#[], #[], []⟩
  let put (h : Array Obj) (g : Nat) (cs : Array Value) : Array Obj := h.modify g fun
    | .cells _ t frozen => .cells cs t frozen
    | o => o
  let h1 := put w0.heap 3 (Lib.firstTab.map fun z => Value.int .u8 z).toArray
  let h2 := put h1 4 ((List.range 16).flatMap fun i => [Value.int .u8 (Lib.accLo i), Value.int .u8 (Lib.accHi i)]).toArray
  { w0 with heap := h2 }
def wArgs : Array Value := #[.slice none 0 0, .string ⟨#[]⟩]
set_option maxRecDepth 100000 in
theorem laid_met (os : Os) (args : Array Value) : laidMet Tryz.prog Rows.cliLettersUptoRow.laid ((laidWorld os).forCall (fun _ _ => 0) ⟨#[], args, []⟩).memory :=
  (LaidIn.of_run (l := [("unicode/utf8.acceptRanges", Lib.acceptData), ("unicode/utf8.first", Lib.firstData)]) [4, 3] 8 (by kernel_rfl) (by kernel_rfl) (by kernel_rfl) (by kernel_rfl)).met
set_option maxRecDepth 100000 in
theorem witness_row (os : Os) {H : Type} (en : TypeId × Value → H) :
    (Rows.OpenSpec.upto Rows.cliLettersSpec).preRow en Tryz.prog Tryz.f4 Rows.cliLettersUptoRow.domain false Rows.cliLettersUptoRow.laid ((laidWorld os).forCall (fun _ _ => 0) ⟨#[], wArgs, []⟩).memory wArgs := by
  have hw : (DataW.whole en Tryz.prog ((laidWorld os).forCall (fun _ _ => 0) ⟨#[], wArgs, []⟩).memory Tryz.f4.params.toList Rows.cliLettersSpec.vars false wArgs.toList 8).map (fun x => (x.1, x.2.1)) =
      some ([.nil, .lit (.string [])], []) := by kernel_rfl
  obtain ⟨⟨x1, x2, x3⟩, hx, hx1⟩ := Option.map_eq_some_iff.1 hw
  simp only [Prod.mk.injEq] at hx1
  obtain ⟨rfl, rfl⟩ := hx1
  exact OpenSpec.preRow_of_cond 8 hx (by kernel_rfl) (fun k hk => by cases hk; kernel_rfl) (by kernel_rfl) (laid_met os _)
set_option maxRecDepth 100000 in
set_option maxHeartbeats 2000000 in
theorem lifted (os : Os) (started : os.Started) (H : Type) (en : TypeId × Value → H) (F : Stop.Interp) :
    ReturnsInHanded {} Tryz.checked os 4 .any ((Rows.OpenSpec.upto Rows.cliLettersSpec).preRow en Tryz.prog Tryz.f4 Rows.cliLettersUptoRow.domain false Rows.cliLettersUptoRow.laid) (((Rows.OpenSpec.upto Rows.cliLettersSpec).at F).post en Tryz.prog Tryz.f4 false true false false) := by
  refine returnsInHanded_of_row (C := Tryz.checked) (s := Rows.OpenSpec.upto Rows.cliLettersSpec) own0 started (by kernel_rfl) Tryz.func4
    (witness_row_atRef (enc := en) (C := Tryz.checked) false (laidWorld os) wArgs rfl (by kernel_rfl) (by kernel_rfl) (by kernel_rfl) (witness_row os en)) ?_
  intro W base args ds gs before hval0 hW _ hcond _ hL hsh _
  have hval : ∀ (j : Nat) t v, Tryz.f4.params[j]? = some t → args[j]? = some v → Value.okWide Tryz.prog W .any base t v := hval0
  have hW' := hW
  have hlt := fun x hx => hW'.lt x hx
  obtain ⟨p, q, hA0, hV0, rfl, _, _⟩ := hW
  have hA : DataW.TrodAll en Tryz.prog W 0 (fun _ => true) true Tryz.f4.params.toList args.toList ds p := hA0
  rw [Tryz.params4] at hA hval
  obtain ⟨v0, v1, d0, d1, p0, p1, rfl, rfl, rfl, h0, h1⟩ := trodAll_two hA
  obtain ⟨rfl, rfl⟩ := trodVars_none hV0
  have hk := of_decide_eq_true (hcond _ rfl)
  have hk' : Rows.uptoBulk d0 + Rows.uptoBulk d1 ≤ 1048576 := by simpa only [List.append_nil, Rows.uptoBulkAll, Nat.add_zero] using hk
  obtain ⟨fu0, e0⟩ := h0
  obtain ⟨a0, ln0, cp0, hv0⟩ := okWide_slice Tryz.underlying35 (hval 0 35 v0 rfl rfl)
  subst hv0
  obtain ⟨l0, u0, hu0, hin0, hln0, hrv0⟩ := open_I e0 (by simp only; omega)
  obtain rfl : Value.slice a0 ln0 cp0 = u0 := by
    have hz' : [Value.slice a0 ln0 cp0] = [u0] := hu0
    simpa using hz'
  obtain ⟨fu1, e1⟩ := h1
  obtain ⟨s1, hv1⟩ := okWide_string Tryz.underlying9 (hval 1 9 v1 rfl rfl)
  subst hv1
  obtain ⟨z1, hz1, hsz1⟩ := open_S e1 (by simp only; omega)
  obtain rfl : s1 = z1 := by
    have hz' : [Value.string s1] = [Value.string z1] := hz1
    simpa using hz'
  have hus : RVl (Old W) W [.psl (i64s l0) l0.length, .sc (.string s1)] noMap [.slice a0 ln0 cp0, .string s1] := by
    simp only [RVl]
    simp only [RV.eq_1]
    exact ⟨_, _, rfl, hrv0, _, _, rfl, ⟨rfl, rfl⟩, rfl⟩
  refine (law_calls6 (pc4 Gu8 l0 s1 (by omega) (by omega)) (tabsOf hL) hus).mono ?_
  rintro e W' ⟨rfl, bel⟩
  have eF : ((Rows.OpenSpec.upto Rows.cliLettersSpec).at F).fn H ([d0, d1] ++ []) = { results := [.lit (.bool true)], args := [d0, d1] } := rfl
  refine ⟨_, rfl, _, _, _, [], p0 ++ p1, [], hW', ?_, ?_, ?_, bel.frame _, fun h => by cases h⟩
  · rw [eF]; exact trodAll_mk1 (shut_bool Tryz.underlying4 _)
  · rw [eF]
    exact trodAll_mk2 (Below.trod laidOut (by kernel_rfl) (of_decide_eq_true (by kernel_rfl)) ⟨fu0, e0⟩ bel (fun x hx => hlt x (List.mem_append.2 (.inl (List.mem_append.2 (.inl hx)))))) (Below.trod laidOut (by kernel_rfl) (of_decide_eq_true (by kernel_rfl)) ⟨fu1, e1⟩ bel (fun x hx => hlt x (List.mem_append.2 (.inl (List.mem_append.2 (.inr hx))))))
  · rw [eF]; rfl
theorem said : Rows.CliLettersUptoSaid :=
  OpenClaim.holds_of_cond 4 Tryz.f4 rfl rfl rfl rfl rfl rfl rfl ⟨rfl, rfl, rfl, rfl, rfl⟩ rfl rfl rfl rfl rfl (by kernel_rfl) Tryz.func4 closedRow
    (of_decide_eq_true (by kernel_rfl)) (by unfold Func.isWrapper; first | (rw [if_pos (by decide +kernel)]; kernel_rfl) | (rw [if_neg (by decide +kernel)]; exact ⟨rfl, rfl⟩))
    (fun os started H en _ F => by rw [OpenClaim.pre_eq_preRow]; exact lifted os started H en F)
theorem plain (f : FuncId) (fn : Func) (hf : Tryz.pinned.checked.prog.funcNamed "bolter/bolterlaw35.CliLetters" = some f) (hfn : Tryz.pinned.checked.prog.funcs[f]? = some fn) :
    true = Tryz.pinned.checked.prog.looks [] ∧ ∀ (j : Nat) t, fn.params[j]? = some t → Tryz.pinned.checked.prog.wantsStandIn t = false := by
  obtain rfl : f = 4 := Option.some.inj ((show Tryz.prog.funcNamed "bolter/bolterlaw35.CliLetters" = some 4 by kernel_rfl).symm.trans hf) |>.symm
  obtain rfl : fn = Tryz.f4 := (Option.some.inj (Tryz.func4.symm.trans hfn)).symm
  refine ⟨by kernel_rfl, fun j t ht => ?_⟩
  rw [Tryz.params4] at ht
  have : t = 35 ∨ t = 9 := by simpa using Array.mem_of_getElem? ht
  rcases this with rfl | rfl
  · exact (show Tryz.prog.wantsStandIn 35 = false by kernel_rfl)
  · exact (show Tryz.prog.wantsStandIn 9 = false by kernel_rfl)
theorem cliLetters_card : Rows.CliLettersUptoCardSaid :=
  Claim7.holds_tied_plain_at .later [] _ _ _ _ said (fun _ h => by cases h) (by kernel_rfl) (fun _ h => by cases h) cliLettersUpto_row_tie rfl ⟨rfl, rfl⟩ (by kernel_rfl) rfl plain (by kernel_rfl)
#print axioms cliLetters_card
end Go.Proofs.YtplbncajfignlaaGreatDoor
