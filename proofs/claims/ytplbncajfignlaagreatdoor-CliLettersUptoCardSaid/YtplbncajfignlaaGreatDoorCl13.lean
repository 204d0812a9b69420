/-
  A part of the proof of CliLettersUptoCardSaid: CkTypes, CkSet, CkOrcs, CkSize, CkDeep, CkRises, CkUsed, CkOr, CkNat1.
  Conditions: those that each part names.
-/
import Derived.Test.YtplbncajfignlaaGreatDoorCl12
import Derived.Test.YtplbncajfignlaaGreatDoorProg
import Derived.KernelRfl
set_option linter.unusedSimpArgs false
set_option linter.unusedVariables false
namespace Go.Proofs.Bv
open Go
theorem sz3 : szOf Tryz.prog 3 = some 1 := by kernel_rfl
theorem ag3 : aggOf Tryz.prog 3 = some false := by kernel_rfl
theorem ze3 : zeroA Tryz.prog 3 = some [.sc (.int .i64 0)] := by kernel_rfl
theorem sz4 : szOf Tryz.prog 4 = some 1 := by kernel_rfl
theorem ag4 : aggOf Tryz.prog 4 = some false := by kernel_rfl
theorem ze4 : zeroA Tryz.prog 4 = some [.sc (.bool false)] := by kernel_rfl
theorem sz5 : szOf Tryz.prog 5 = some 1 := by kernel_rfl
theorem ag5 : aggOf Tryz.prog 5 = some false := by kernel_rfl
theorem ze5 : zeroA Tryz.prog 5 = some [.sc (.int .u8 0)] := by kernel_rfl
theorem sz9 : szOf Tryz.prog 9 = some 1 := by kernel_rfl
theorem ag9 : aggOf Tryz.prog 9 = some false := by kernel_rfl
theorem ze9 : zeroA Tryz.prog 9 = some [.sc (.string ByteArray.empty)] := by kernel_rfl
theorem sz21 : szOf Tryz.prog 21 = some 1 := by kernel_rfl
theorem ag21 : aggOf Tryz.prog 21 = some false := by kernel_rfl
theorem ze21 : zeroA Tryz.prog 21 = some [.sc (.int .i32 0)] := by kernel_rfl
theorem sz22 : szOf Tryz.prog 22 = some 1 := by kernel_rfl
theorem ag22 : aggOf Tryz.prog 22 = some false := by kernel_rfl
theorem ze22 : zeroA Tryz.prog 22 = some [.nilS] := by kernel_rfl
theorem sz24 : szOf Tryz.prog 24 = some 1 := by kernel_rfl
theorem ag24 : aggOf Tryz.prog 24 = some false := by kernel_rfl
theorem ze24 : zeroA Tryz.prog 24 = some [.nilS] := by kernel_rfl
theorem sz26 : szOf Tryz.prog 26 = some 7 := by kernel_rfl
theorem ag26 : aggOf Tryz.prog 26 = some true := by kernel_rfl
theorem ze26 : zeroA Tryz.prog 26 = some [.sc (.bool false), .sc (.bool false), .sc (.bool false), .sc (.bool false), .sc (.bool false), .sc (.int .i64 0), .nilS] := by kernel_rfl
theorem sz27 : szOf Tryz.prog 27 = some 1 := by kernel_rfl
theorem ag27 : aggOf Tryz.prog 27 = some false := by kernel_rfl
theorem ze27 : zeroA Tryz.prog 27 = some [.sc (.int .i64 0)] := by kernel_rfl
theorem sz35 : szOf Tryz.prog 35 = some 1 := by kernel_rfl
theorem ag35 : aggOf Tryz.prog 35 = some false := by kernel_rfl
theorem ze35 : zeroA Tryz.prog 35 = some [.nilS] := by kernel_rfl
theorem sz38 : szOf Tryz.prog 38 = some 1 := by kernel_rfl
theorem ag38 : aggOf Tryz.prog 38 = some false := by kernel_rfl
theorem ze38 : zeroA Tryz.prog 38 = some [.nilS] := by kernel_rfl
theorem sz40 : szOf Tryz.prog 40 = some 3 := by kernel_rfl
theorem ag40 : aggOf Tryz.prog 40 = some true := by kernel_rfl
theorem ze40 : zeroA Tryz.prog 40 = some [.sc (.bool false), .nilS, .sc (.int .i64 0)] := by kernel_rfl
theorem sz41 : szOf Tryz.prog 41 = some 1 := by kernel_rfl
theorem ag41 : aggOf Tryz.prog 41 = some false := by kernel_rfl
theorem ze41 : zeroA Tryz.prog 41 = some [.nilS] := by kernel_rfl
theorem sz43 : szOf Tryz.prog 43 = some 7 := by kernel_rfl
theorem ag43 : aggOf Tryz.prog 43 = some true := by kernel_rfl
theorem ze43 : zeroA Tryz.prog 43 = some [.sc (.int .i64 0), .sc (.bool false), .nilS, .sc (.int .i64 0), .sc (.string ByteArray.empty), .nilS, .nilS] := by kernel_rfl
theorem sz46 : szOf Tryz.prog 46 = some 8 := by kernel_rfl
theorem ag46 : aggOf Tryz.prog 46 = some true := by kernel_rfl
theorem ze46 : zeroA Tryz.prog 46 = some [.sc (.string ByteArray.empty), .sc (.int .i64 0), .sc (.bool false), .nilS, .sc (.int .i64 0), .sc (.string ByteArray.empty), .nilS, .nilS] := by kernel_rfl
theorem sz52 : szOf Tryz.prog 52 = some 1 := by kernel_rfl
theorem ag52 : aggOf Tryz.prog 52 = some false := by kernel_rfl
theorem ze52 : zeroA Tryz.prog 52 = some [.nilS] := by kernel_rfl
theorem sz54 : szOf Tryz.prog 54 = some 2 := by kernel_rfl
theorem ag54 : aggOf Tryz.prog 54 = some true := by kernel_rfl
theorem ze54 : zeroA Tryz.prog 54 = some [.nilS, .nilS] := by kernel_rfl
theorem sz65 : szOf Tryz.prog 65 = some 3 := by kernel_rfl
theorem ag65 : aggOf Tryz.prog 65 = some true := by kernel_rfl
theorem ze65 : zeroA Tryz.prog 65 = some [.sc (.int .i64 0), .sc (.int .i64 0), .sc (.int .i64 0)] := by kernel_rfl
theorem sz83 : szOf Tryz.prog 83 = some 2 := by kernel_rfl
theorem ag83 : aggOf Tryz.prog 83 = some true := by kernel_rfl
theorem ze83 : zeroA Tryz.prog 83 = some [.sc (.int .i64 0), .sc (.int .i64 0)] := by kernel_rfl
theorem sz87 : szOf Tryz.prog 87 = some 12 := by kernel_rfl
theorem ag87 : aggOf Tryz.prog 87 = some true := by kernel_rfl
theorem ze87 : zeroA Tryz.prog 87 = some [.sc (.bool false), .sc (.bool false), .sc (.bool false), .sc (.bool false), .sc (.bool false), .sc (.int .i64 0), .nilS, .nilS, .sc (.int .i64 0), .sc (.string ByteArray.empty), .sc (.bool false), .sc (.bool false)] := by kernel_rfl
theorem sz96 : szOf Tryz.prog 96 = some 1 := by kernel_rfl
theorem ag96 : aggOf Tryz.prog 96 = some false := by kernel_rfl
theorem ze96 : zeroA Tryz.prog 96 = some [.nilS] := by kernel_rfl
theorem sz98 : szOf Tryz.prog 98 = some 1 := by kernel_rfl
theorem ag98 : aggOf Tryz.prog 98 = some false := by kernel_rfl
theorem ze98 : zeroA Tryz.prog 98 = some [.sc (.pointer none)] := by kernel_rfl
theorem sz100 : szOf Tryz.prog 100 = some 2 := by kernel_rfl
theorem ag100 : aggOf Tryz.prog 100 = some true := by kernel_rfl
theorem ze100 : zeroA Tryz.prog 100 = some [.sc (.pointer none), .nilS] := by kernel_rfl
theorem sz102 : szOf Tryz.prog 102 = some 1 := by kernel_rfl
theorem ag102 : aggOf Tryz.prog 102 = some false := by kernel_rfl
theorem ze102 : zeroA Tryz.prog 102 = some [.sc .nilIface] := by kernel_rfl
theorem sz137 : szOf Tryz.prog 137 = some 1 := by kernel_rfl
theorem ag137 : aggOf Tryz.prog 137 = some false := by kernel_rfl
theorem ze137 : zeroA Tryz.prog 137 = some [.nilS] := by kernel_rfl
theorem sz142 : szOf Tryz.prog 142 = some 1 := by kernel_rfl
theorem ag142 : aggOf Tryz.prog 142 = some false := by kernel_rfl
theorem ze142 : zeroA Tryz.prog 142 = some [.sc (.pointer none)] := by kernel_rfl
theorem sz145 : szOf Tryz.prog 145 = some 2 := by kernel_rfl
theorem ag145 : aggOf Tryz.prog 145 = some true := by kernel_rfl
theorem ze145 : zeroA Tryz.prog 145 = some [.sc (.int .i64 0), .sc (.int .i64 0)] := by kernel_rfl
theorem sz155 : szOf Tryz.prog 155 = some 1 := by kernel_rfl
theorem ag155 : aggOf Tryz.prog 155 = some false := by kernel_rfl
theorem ze155 : zeroA Tryz.prog 155 = some [.sc (.int .u32 0)] := by kernel_rfl
theorem sz162 : szOf Tryz.prog 162 = some 1 := by kernel_rfl
theorem ag162 : aggOf Tryz.prog 162 = some false := by kernel_rfl
theorem ze162 : zeroA Tryz.prog 162 = some [.sc (.int .u64 0)] := by kernel_rfl
theorem sz173 : szOf Tryz.prog 173 = some 1 := by kernel_rfl
theorem ag173 : aggOf Tryz.prog 173 = some false := by kernel_rfl
theorem ze173 : zeroA Tryz.prog 173 = some [.sc (.pointer none)] := by kernel_rfl
theorem sz175 : szOf Tryz.prog 175 = some 4 := by kernel_rfl
theorem ag175 : aggOf Tryz.prog 175 = some true := by kernel_rfl
theorem ze175 : zeroA Tryz.prog 175 = some [.sc (.pointer none), .nilS, .sc (.int .i64 0), .sc (.bool false)] := by kernel_rfl
theorem sz182 : szOf Tryz.prog 182 = some 1 := by kernel_rfl
theorem ag182 : aggOf Tryz.prog 182 = some false := by kernel_rfl
theorem ze182 : zeroA Tryz.prog 182 = some [.sc (.pointer none)] := by kernel_rfl
theorem sz184 : szOf Tryz.prog 184 = some 2 := by kernel_rfl
theorem ag184 : aggOf Tryz.prog 184 = some true := by kernel_rfl
theorem ze184 : zeroA Tryz.prog 184 = some [.nilS, .sc (.int .i64 0)] := by kernel_rfl
theorem sz187 : szOf Tryz.prog 187 = some 2 := by kernel_rfl
theorem ag187 : aggOf Tryz.prog 187 = some true := by kernel_rfl
theorem ze187 : zeroA Tryz.prog 187 = some [.sc (.int .i64 0), .sc (.int .i64 0)] := by kernel_rfl
theorem sz190 : szOf Tryz.prog 190 = some 1 := by kernel_rfl
theorem ag190 : aggOf Tryz.prog 190 = some false := by kernel_rfl
theorem ze190 : zeroA Tryz.prog 190 = some [.nilS] := by kernel_rfl
theorem sz193 : szOf Tryz.prog 193 = some 2 := by kernel_rfl
theorem ag193 : aggOf Tryz.prog 193 = some true := by kernel_rfl
theorem ze193 : zeroA Tryz.prog 193 = some [.sc (.string ByteArray.empty), .sc (.int .i64 0)] := by kernel_rfl
theorem sz215 : szOf Tryz.prog 215 = some 1 := by kernel_rfl
theorem ag215 : aggOf Tryz.prog 215 = some false := by kernel_rfl
theorem ze215 : zeroA Tryz.prog 215 = some [.sc (.int .u64 0)] := by kernel_rfl
theorem sz229 : szOf Tryz.prog 229 = some 1 := by kernel_rfl
theorem ag229 : aggOf Tryz.prog 229 = some false := by kernel_rfl
theorem ze229 : zeroA Tryz.prog 229 = some [.sc .nilFunc] := by kernel_rfl
theorem sz231 : szOf Tryz.prog 231 = some 1 := by kernel_rfl
theorem ag231 : aggOf Tryz.prog 231 = some false := by kernel_rfl
theorem ze231 : zeroA Tryz.prog 231 = some [.nilS] := by kernel_rfl
theorem sz233 : szOf Tryz.prog 233 = some 2 := by kernel_rfl
theorem ag233 : aggOf Tryz.prog 233 = some true := by kernel_rfl
theorem ze233 : zeroA Tryz.prog 233 = some [.sc (.int .i64 0), .sc (.int .i64 0)] := by kernel_rfl
theorem sz235 : szOf Tryz.prog 235 = some 1 := by kernel_rfl
theorem ag235 : aggOf Tryz.prog 235 = some false := by kernel_rfl
theorem ze235 : zeroA Tryz.prog 235 = some [.sc (.pointer none)] := by kernel_rfl
theorem sz249 : szOf Tryz.prog 249 = some 3 := by kernel_rfl
theorem ag249 : aggOf Tryz.prog 249 = some true := by kernel_rfl
theorem ze249 : zeroA Tryz.prog 249 = some [.sc (.bool false), .nilS, .sc (.int .i64 0)] := by kernel_rfl
theorem sz252 : szOf Tryz.prog 252 = some 2 := by kernel_rfl
theorem ag252 : aggOf Tryz.prog 252 = some true := by kernel_rfl
theorem ze252 : zeroA Tryz.prog 252 = some [.sc (.int .u8 0), .sc (.int .u8 0)] := by kernel_rfl
theorem sz253 : szOf Tryz.prog 253 = some 32 := by kernel_rfl
theorem ag253 : aggOf Tryz.prog 253 = some true := by kernel_rfl
theorem ze253 : zeroA Tryz.prog 253 = some [.sc (.int .u8 0), .sc (.int .u8 0), .sc (.int .u8 0), .sc (.int .u8 0), .sc (.int .u8 0), .sc (.int .u8 0), .sc (.int .u8 0), .sc (.int .u8 0), .sc (.int .u8 0), .sc (.int .u8 0), .sc (.int .u8 0), .sc (.int .u8 0), .sc (.int .u8 0), .sc (.int .u8 0), .sc (.int .u8 0), .sc (.int .u8 0), .sc (.int .u8 0), .sc (.int .u8 0), .sc (.int .u8 0), .sc (.int .u8 0), .sc (.int .u8 0), .sc (.int .u8 0), .sc (.int .u8 0), .sc (.int .u8 0), .sc (.int .u8 0), .sc (.int .u8 0), .sc (.int .u8 0), .sc (.int .u8 0), .sc (.int .u8 0), .sc (.int .u8 0), .sc (.int .u8 0), .sc (.int .u8 0)] := by kernel_rfl
theorem sz270 : szOf Tryz.prog 270 = some 1 := by kernel_rfl
theorem ag270 : aggOf Tryz.prog 270 = some false := by kernel_rfl
theorem ze270 : zeroA Tryz.prog 270 = some [.nilS] := by kernel_rfl
theorem sz271 : szOf Tryz.prog 271 = some 1 := by kernel_rfl
theorem ag271 : aggOf Tryz.prog 271 = some false := by kernel_rfl
theorem ze271 : zeroA Tryz.prog 271 = some [.nilS] := by kernel_rfl
theorem sz273 : szOf Tryz.prog 273 = some 3 := by kernel_rfl
theorem ag273 : aggOf Tryz.prog 273 = some true := by kernel_rfl
theorem ze273 : zeroA Tryz.prog 273 = some [.nilS, .nilS, .sc (.int .i64 0)] := by kernel_rfl
theorem sz274 : szOf Tryz.prog 274 = some 1 := by kernel_rfl
theorem ag274 : aggOf Tryz.prog 274 = some false := by kernel_rfl
theorem ze274 : zeroA Tryz.prog 274 = some [.sc (.int .u16 0)] := by kernel_rfl
theorem sz276 : szOf Tryz.prog 276 = some 3 := by kernel_rfl
theorem ag276 : aggOf Tryz.prog 276 = some true := by kernel_rfl
theorem ze276 : zeroA Tryz.prog 276 = some [.sc (.int .u16 0), .sc (.int .u16 0), .sc (.int .u16 0)] := by kernel_rfl
theorem sz279 : szOf Tryz.prog 279 = some 3 := by kernel_rfl
theorem ag279 : aggOf Tryz.prog 279 = some true := by kernel_rfl
theorem ze279 : zeroA Tryz.prog 279 = some [.sc (.int .u32 0), .sc (.int .u32 0), .sc (.int .u32 0)] := by kernel_rfl
theorem sz289 : szOf Tryz.prog 289 = some 1 := by kernel_rfl
theorem ag289 : aggOf Tryz.prog 289 = some false := by kernel_rfl
theorem ze289 : zeroA Tryz.prog 289 = some [.nilS] := by kernel_rfl
theorem sz298 : szOf Tryz.prog 298 = some 1 := by kernel_rfl
theorem ag298 : aggOf Tryz.prog 298 = some false := by kernel_rfl
theorem ze298 : zeroA Tryz.prog 298 = some [.nilS] := by kernel_rfl
theorem sz310 : szOf Tryz.prog 310 = some 5 := by kernel_rfl
theorem ag310 : aggOf Tryz.prog 310 = some true := by kernel_rfl
theorem ze310 : zeroA Tryz.prog 310 = some [.sc (.bool false), .sc (.bool false), .sc (.string ByteArray.empty), .sc (.string ByteArray.empty), .sc (.string ByteArray.empty)] := by kernel_rfl
theorem sz319 : szOf Tryz.prog 319 = some 3 := by kernel_rfl
theorem ag319 : aggOf Tryz.prog 319 = some true := by kernel_rfl
theorem ze319 : zeroA Tryz.prog 319 = some [.sc (.bool false), .nilS, .sc (.int .i64 0)] := by kernel_rfl
theorem sz342 : szOf Tryz.prog 342 = some 2 := by kernel_rfl
theorem ag342 : aggOf Tryz.prog 342 = some true := by kernel_rfl
theorem ze342 : zeroA Tryz.prog 342 = some [.sc (.string ByteArray.empty), .sc (.bool false)] := by kernel_rfl
end Go.Proofs.Bv
namespace Go.Proofs.Bv
open Go
theorem iq3 : infoQ Tryz.prog 3 = some (1, 8, some 1) := by unfold infoQ; kernel_rfl
theorem iq5 : infoQ Tryz.prog 5 = some (1, 1, some 1) := by unfold infoQ; kernel_rfl
theorem iq9 : infoQ Tryz.prog 9 = some (1, 16, some 1) := by unfold infoQ; kernel_rfl
theorem iq24 : infoQ Tryz.prog 24 = some (1, 24, some 1) := by unfold infoQ; kernel_rfl
theorem iq27 : infoQ Tryz.prog 27 = some (1, 8, some 1) := by unfold infoQ; kernel_rfl
theorem iq43 : infoQ Tryz.prog 43 = some (7, 112, some 7) := by unfold infoQ; kernel_rfl
theorem iq46 : infoQ Tryz.prog 46 = some (8, 128, some 8) := by unfold infoQ; kernel_rfl
theorem iq65 : infoQ Tryz.prog 65 = some (3, 24, some 3) := by unfold infoQ; kernel_rfl
theorem iq155 : infoQ Tryz.prog 155 = some (1, 4, some 1) := by unfold infoQ; kernel_rfl
theorem iq193 : infoQ Tryz.prog 193 = some (2, 24, some 2) := by unfold infoQ; kernel_rfl
theorem iq233 : infoQ Tryz.prog 233 = some (2, 16, some 2) := by unfold infoQ; kernel_rfl
theorem iq276 : infoQ Tryz.prog 276 = some (3, 6, some 3) := by unfold infoQ; kernel_rfl
theorem iq279 : infoQ Tryz.prog 279 = some (3, 12, some 3) := by unfold infoQ; kernel_rfl
theorem zv27 : zeroV Tryz.prog 27 = some (.sc (.int .i64 0)) := by unfold zeroV; kernel_rfl
theorem zv83 : zeroV Tryz.prog 83 = some (.agg [.sc (.int .i64 0), .sc (.int .i64 0)]) := by unfold zeroV; kernel_rfl
theorem zv187 : zeroV Tryz.prog 187 = some (.agg [.sc (.int .i64 0), .sc (.int .i64 0)]) := by unfold zeroV; kernel_rfl
attribute [go_sem] sz3 ag3 ze3 Tryz.underlying3 sz4 ag4 ze4 Tryz.underlying4 sz5 ag5 ze5 Tryz.underlying5
attribute [go_sem] sz9 ag9 ze9 Tryz.underlying9 sz21 ag21 ze21 Tryz.underlying21 sz22 ag22 ze22 Tryz.underlying22
attribute [go_sem] sz24 ag24 ze24 Tryz.underlying24 sz26 ag26 ze26 Tryz.underlying26 sz27 ag27 ze27 Tryz.underlying27
attribute [go_sem] sz35 ag35 ze35 Tryz.underlying35 sz38 ag38 ze38 Tryz.underlying38 sz40 ag40 ze40 Tryz.underlying40
attribute [go_sem] sz41 ag41 ze41 Tryz.underlying41 sz43 ag43 ze43 Tryz.underlying43 sz46 ag46 ze46 Tryz.underlying46
attribute [go_sem] sz52 ag52 ze52 Tryz.underlying52 sz54 ag54 ze54 Tryz.underlying54 sz65 ag65 ze65 Tryz.underlying65
attribute [go_sem] sz83 ag83 ze83 Tryz.underlying83 sz87 ag87 ze87 Tryz.underlying87 sz96 ag96 ze96 Tryz.underlying96
attribute [go_sem] sz98 ag98 ze98 Tryz.underlying98 sz100 ag100 ze100 Tryz.underlying100 sz102 ag102 ze102 Tryz.underlying102
attribute [go_sem] sz137 ag137 ze137 Tryz.underlying137 sz142 ag142 ze142 Tryz.underlying142 sz145 ag145 ze145 Tryz.underlying145
attribute [go_sem] sz155 ag155 ze155 Tryz.underlying155 sz162 ag162 ze162 Tryz.underlying162 sz173 ag173 ze173 Tryz.underlying173
attribute [go_sem] sz175 ag175 ze175 Tryz.underlying175 sz182 ag182 ze182 Tryz.underlying182 sz184 ag184 ze184 Tryz.underlying184
attribute [go_sem] sz187 ag187 ze187 Tryz.underlying187 sz190 ag190 ze190 Tryz.underlying190 sz193 ag193 ze193 Tryz.underlying193
attribute [go_sem] sz215 ag215 ze215 Tryz.underlying215 sz229 ag229 ze229 Tryz.underlying229 sz231 ag231 ze231 Tryz.underlying231
attribute [go_sem] sz233 ag233 ze233 Tryz.underlying233 sz235 ag235 ze235 Tryz.underlying235 sz249 ag249 ze249 Tryz.underlying249
attribute [go_sem] sz252 ag252 ze252 Tryz.underlying252 sz253 ag253 ze253 Tryz.underlying253 sz270 ag270 ze270 Tryz.underlying270
attribute [go_sem] sz271 ag271 ze271 Tryz.underlying271 sz273 ag273 ze273 Tryz.underlying273 sz274 ag274 ze274 Tryz.underlying274
attribute [go_sem] sz276 ag276 ze276 Tryz.underlying276 sz279 ag279 ze279 Tryz.underlying279 sz289 ag289 ze289 Tryz.underlying289
attribute [go_sem] sz298 ag298 ze298 Tryz.underlying298 sz310 ag310 ze310 Tryz.underlying310 sz319 ag319 ze319 Tryz.underlying319
attribute [go_sem] sz342 ag342 ze342 Tryz.underlying342 iq3 iq5 iq9 iq24 iq27 iq43 iq46 iq65
attribute [go_sem] iq155 iq193 iq233 iq276 iq279 zv27 zv83 zv187 CfP asIfc notIfc tasA
attribute [go_sem] asFn
theorem u32s_pur : (l : List Int) → purs (u32s l) = true
  | [] => rfl
  | _ :: l => by simpa [u32s, purs, AV.pur] using u32s_pur l
theorem strs_pur : (l : List ByteArray) → purs (strs l) = true
  | [] => rfl
  | _ :: l => by simpa [strs, purs, AV.pur] using strs_pur l
theorem encs_is (l : List JV) : ((encs l).length = l.length * 7) = True := by simp [encs_len]
theorem u32s_is (l : List Int) : ((u32s l).length = l.length * 1) = True := by simp [u32s_len]
theorem strs_is (l : List ByteArray) : ((strs l).length = l.length * 1) = True := by simp [strs_len]
attribute [go_sem] enc encs_pur enc_pur u32s_pur strs_pur encs_is u32s_is strs_is
end Go.Proofs.Bv
namespace Go.Proofs.Bv
open Go
theorem HR_cfg {C C' : Cfg} {m : AMap} {Z : Nat → Prop} {h : Heap} {w : World} (hG : C.G = C'.G) (hr : HR C m Z h w) : HR C' m Z h w :=
  ⟨hr.cells, hr.loops, hr.inj, hr.zlt, fun g cs e => hr.glob g cs (by rw [hG]; exact e)⟩
theorem Step_cfg {C C' : Cfg} {m m' : AMap} {Z Z' : Nat → Prop} {h h' : Heap} {n n' : Nat} {w w' : World} (hG : C.G = C'.G) (s : Step C m Z h n w m' Z' h' n' w') : Step C' m Z h n w m' Z' h' n' w' :=
  ⟨HR_cfg hG s.hr, s.mext, s.mnew, s.zext, s.znew, s.nle, s.size, s.frame, s.dom, s.os, s.tape, s.output⟩
theorem nn (G : Nat → Option (List AV)) : NoNum (Cf G) := noNum_of (by show (Tryz.prog.funcs.all _) = true; kernel_rfl)
theorem mix : Tryz.prog.follows .mixedOrders = true := by kernel_rfl
def Gu8 : Nat → Option (List AV)
  | 3 => some ((List.range 256).map fun c => .sc (.int .u8 (Lib.firstT c)))
  | 4 => some ((List.range 16).flatMap fun i => [.sc (.int .u8 (Lib.accLo i)), .sc (.int .u8 (Lib.accHi i))])
  | _ => none
set_option maxRecDepth 100000 in
theorem glob_cell {w : World} {Z : Nat → Prop} (hr : HR (Cf Gu8) noMap Z noHeap w) : ∀ g cs, Gu8 g = some cs → ∀ (i : Nat) (v : Value), cs[i]? = some (.sc v) → w.cell? ⟨g, i, none⟩ = some v := by
  have key : ∀ g cs, Gu8 g = some cs → ∀ (i : Nat) (v : Value), cs[i]? = some (.sc v) → w.cell? ⟨g, i, none⟩ = some v := by
    intro g cs hg i v hi
    have h := hr.glob g cs hg
    simp only [RV] at h
    obtain ⟨blk, base, us, e, _, hc, hv⟩ := h
    simp only [Value.pointer.injEq, Option.some.injEq, Addr.mk.injEq, and_true] at e
    obtain ⟨rfl, e⟩ := e
    obtain rfl : base = 0 := by omega
    obtain ⟨u, h1, _, h2⟩ := RVs_get hv i hi
    have hlt : i < us.length := (List.getElem?_eq_some_iff.1 h1).1
    have := hc i hlt
    rw [h1, Nat.zero_add] at this
    simp only [RV] at h2
    rw [this, h2.1]
  exact key
set_option maxRecDepth 100000 in
theorem tabs_of {w : World} {Z : Nat → Prop} (hr : HR (Cf Gu8) noMap Z noHeap w) : Lib.Utf8Tabs 3 4 w := by
  have key := glob_cell hr
  refine ⟨fun c hc => key 3 _ rfl c _ (by simp [hc]), fun i hi => ⟨key 4 _ rfl (2 * i) _ ?_, key 4 _ rfl (2 * i + 1) _ ?_⟩⟩
  · have : i = 0 ∨ i = 1 ∨ i = 2 ∨ i = 3 ∨ i = 4 ∨ i = 5 ∨ i = 6 ∨ i = 7 ∨ i = 8 ∨ i = 9 ∨ i = 10 ∨ i = 11 ∨ i = 12 ∨ i = 13 ∨ i = 14 ∨ i = 15 := by omega
    rcases this with rfl | rfl | rfl | rfl | rfl | rfl | rfl | rfl | rfl | rfl | rfl | rfl | rfl | rfl | rfl | rfl <;> rfl
  · have : i = 0 ∨ i = 1 ∨ i = 2 ∨ i = 3 ∨ i = 4 ∨ i = 5 ∨ i = 6 ∨ i = 7 ∨ i = 8 ∨ i = 9 ∨ i = 10 ∨ i = 11 ∨ i = 12 ∨ i = 13 ∨ i = 14 ∨ i = 15 := by omega
    rcases this with rfl | rfl | rfl | rfl | rfl | rfl | rfl | rfl | rfl | rfl | rfl | rfl | rfl | rfl | rfl | rfl <;> rfl
set_option maxRecDepth 100000 in
theorem ent122 (s : ByteArray) (w : World) : (callFunc 122 [Value.string s].toArray).run Tryz.prog w = .ok (.enter 122 [Value.string s].toArray) w :=
  Go.Proofs.enters_of Tryz.func122 (by kernel_rfl) rfl _ _
set_option maxRecDepth 100000 in
theorem orcOk : OrcOk (Cf Gu8) := by
  intro f g ars v hf hg Z w us hr hus r o a next Q hn
  have hf' : orcF f = some g := hf
  unfold orcF at hf'
  split at hf' <;> try (cases hf'; done)
  rename_i e
  subst e
  injection hf' with hf'
  subst hf'
  unfold orcDecode at hg
  split at hg <;> try (cases hg; done)
  rename_i s
  injection hg with hg
  subst hg
  simp only [RVl, RV] at hus
  obtain ⟨u, rest, rfl, ⟨rfl, _⟩, rfl⟩ := hus
  refine orc_upon (C := Cf Gu8) (u := .tuple #[.int .i32 (Lib.decodeGo s).1, .int .i64 (Lib.decodeGo s).2]) hr (ent122 s w) (Tryz.utf8_DecodeRuneInString s w (tabs_of hr)) ?_ r o a next Q hn
  intro w'
  simp only [RV, RVl]
  exact ⟨[.int .i32 (Lib.decodeGo s).1, .int .i64 (Lib.decodeGo s).2], rfl, _, _, rfl, ⟨rfl, rfl⟩, _, _, rfl, ⟨rfl, rfl⟩, rfl⟩
set_option maxRecDepth 100000 in
theorem sndCf : Snd (Cf Gu8) := ⟨nn Gu8, orcOk, by rw [CfP]; exact mix⟩
end Go.Proofs.Bv
namespace Go.Proofs.Bv
open Go
mutual
def size : JV → Int
  | .mk _ _ _ _ _ l _ => min (sizes l 1) 1048576
def sizes : List JV → Int → Int
  | [], n => n
  | x :: r, n => if 1048576 ≤ n then n else sizes r (n + size x)
end
mutual
theorem size_rng : (v : JV) → 1 ≤ size v ∧ size v ≤ 1048576
  | .mk _ _ _ _ _ l _ => by
    have := sizes_rng l 1 (by omega)
    simp only [size]
    omega
theorem sizes_rng : (l : List JV) → (n : Int) → 1 ≤ n → 1 ≤ sizes l n
  | [], n, h => h
  | x :: r, n, h => by
    have := size_rng x
    simp only [sizes]
    split
    · exact h
    · exact sizes_rng r _ (by omega)
end
theorem ok136 : codeOk 22 (Tryz.f136.body.getD .skip) = true := by kernel_rfl
theorem pc136 (G : Nat → Option (List AV)) : (v : JV) → Fit v → Pc (Cf G) 136 [.agg (enc v)] (.sc (.int .i64 (size v)))
  | .mk kk ng cf ex t l ks => fun hfit => by
    have hnl := hfit.1.nlist
    have ih : ∀ x ∈ l, Pc (Cf G) 136 [.agg (enc x)] (.sc (.int .i64 (size x))) := fun x hx => pc136 G x (Fits_mem hfit.2 x hx)
    refine Pc_of (Gf_enter (C := Cf G) Tryz.func136 rfl ok136 (Nat.le_of_ble_eq_true rfl) ?_)
    simp only [Tryz.f136, Option.getD_some]
    refine wB1 trivial ?_
    refine Gc_loop_inv (fun m s => ∃ d r acc, l = d ++ r ∧ m = r.length ∧ s.T 7 = .psl (encs l) l.length ∧ s.T 8 = .sc (.int .i64 l.length) ∧ s.T 9 = .sc (.int .i64 d.length) ∧ s.T 3 = .sc (.int .i64 acc) ∧ sizes r acc = sizes l 1 ∧ 1 ≤ acc ∧ acc ≤ 2097152) ?_ l.length _ ⟨[], l, 1, rfl, rfl, ?_⟩
    · rintro m ⟨T, h, n⟩ ⟨d, r, acc, hl, rfl, h7, h8, h9, h3, hs, ha1, ha2⟩
      simp only at h7 h8 h9 h3
      have hdl : d.length ≤ l.length := by rw [hl]; simp
      (focus refine wB2 (wa h7 (wa h8 (wa h9 h3))) ?_ ?_; intro hb; rotate_left; intro hb; rotate_left)
      · have hlt : d.length < l.length := by omega
        obtain ⟨x, r, rfl, hmem, hcut, hle⟩ := split_at hl hlt
        have hx := ih x hmem
        have hrg := size_rng x
        obtain ⟨k', n', c', e', t', l', ks'⟩ := x
        simp only [sizes] at hs
        simp only [enc] at hx
        (focus refine wC2 (wa h7 (wa h8 (wa h9 (wa h3 (wa hlt (wa hle hcut)))))) (wa hx trivial) ?_ ?_; intro hb; rotate_left; intro hb; rotate_left)
        · rw [if_pos hb] at hs
          simp only [one1, frz_sc, Option.map_some, Option.some.injEq, AV.sc.injEq, Value.int.injEq, true_and, size]
          omega
        · rw [if_neg hb] at hs
          refine ⟨r.length, by simp, d ++ [.mk k' n' c' e' t' l' ks'], r, acc + size (.mk k' n' c' e' t' l' ks'), by simp [hl], rfl, ?_, ?_, ?_, ?_, hs, by omega, by omega⟩
          all_goals simp [upd_ap, h7, h8]
          · rw [i64 (by omega) (by omega)]
          · rw [i64 (by omega) (by omega)]
      · obtain rfl := split_end hl hb
        simp only [sizes] at hs
        simp only [one1, frz_sc, Option.map_some, Option.some.injEq, AV.sc.injEq, Value.int.injEq, true_and, size]
        omega
    · simp [upd_ap]
  termination_by v => v
  decreasing_by
    simp_wf
    have := List.sizeOf_lt_of_mem hx
    omega
end Go.Proofs.Bv
namespace Go.Proofs.Bv
open Go
mutual
def deep : JV → Int → Int
  | .mk k _ _ _ _ l _, left => if (k ≠ 5 ∧ k ≠ 6) ∨ left = 0 then 0 else deeps l (left - 1) 0 + 1
def deeps : List JV → Int → Int → Int
  | [], _, n => n
  | x :: r, left, n => deeps r left (max n (deep x left))
end
mutual
theorem deep_rng : (v : JV) → (left : Int) → 0 ≤ left → 0 ≤ deep v left ∧ deep v left ≤ left
  | .mk k _ _ _ _ l _, left, h => by
    simp only [deep]
    split
    · omega
    · have := deeps_rng l (left - 1) 0 (by omega) (by omega) (by omega)
      omega
theorem deeps_rng : (l : List JV) → (left n : Int) → 0 ≤ left → 0 ≤ n → n ≤ left → 0 ≤ deeps l left n ∧ deeps l left n ≤ left
  | [], left, n, h, h1, h2 => by simp only [deeps]; omega
  | x :: r, left, n, h, h1, h2 => by
    have := deep_rng x left h
    simp only [deeps]
    exact deeps_rng r left _ h (by omega) (by omega)
end
theorem ok193 : codeOk 36 (Tryz.f193.body.getD .skip) = true := by kernel_rfl
theorem pc193 (G : Nat → Option (List AV)) : (v : JV) → (left : Int) → Fit v → 0 ≤ left → left ≤ 1000 → Pc (Cf G) 193 [.agg (enc v), .sc (.int .i64 left)] (.sc (.int .i64 (deep v left)))
  | .mk kk ng cf ex t l ks, left => fun hfit hl0 hl1 => by
    have hnl := hfit.1.nlist
    have ih : ∀ x ∈ l, 0 ≤ left - 1 → Pc (Cf G) 193 [.agg (enc x), .sc (.int .i64 (left - 1))] (.sc (.int .i64 (deep x (left - 1)))) := fun x hx h => pc193 G x (left - 1) (Fits_mem hfit.2 x hx) h (by omega)
    refine Pc_of (Gf_enter (C := Cf G) Tryz.func193 rfl ok193 (Nat.le_of_ble_eq_true rfl) ?_)
    simp only [Tryz.f193, Option.getD_some]
    by_cases hc : (kk ≠ 5 ∧ kk ≠ 6) ∨ left = 0
    · have hd : deep (.mk kk ng cf ex t l ks) left = 0 := by simp only [deep, if_pos hc]
      rw [hd]
      by_cases h5 : kk = 5
      · obtain rfl : left = 0 := by omega
        subst h5
        refine wB1 trivial ?_
        simp only [one1, frz_sc, Option.map_some]
      · by_cases h6 : kk = 6
        · obtain rfl : left = 0 := by omega
          subst h6
          refine wB1 trivial ?_
          simp only [one1, frz_sc, Option.map_some]
        · refine wB1 (wa h5 h6) ?_
          simp only [one1, frz_sc, Option.map_some]
    · have hz : ¬ left = 0 := by omega
      have hd : deep (.mk kk ng cf ex t l ks) left = deeps l (left - 1) 0 + 1 := by simp only [deep, if_neg hc]
      rw [hd]
      have h56 : kk = 5 ∨ kk = 6 := by omega
      clear hc hd
      rcases h56 with rfl | rfl
      all_goals
        refine wB1 hz ?_
        refine Gc_loop_inv (fun m s => ∃ d r acc, l = d ++ r ∧ m = r.length ∧ s.T 1 = .sc (.int .i64 left) ∧ s.T 21 = .psl (encs l) l.length ∧ s.T 22 = .sc (.int .i64 l.length) ∧ s.T 23 = .sc (.int .i64 d.length) ∧ s.T 5 = .sc (.int .i64 acc) ∧ deeps r (left - 1) acc = deeps l (left - 1) 0 ∧ 0 ≤ acc ∧ acc ≤ 1000) ?_ l.length _ ⟨[], l, 0, rfl, rfl, ?_⟩
        · rintro m ⟨T, h, n⟩ ⟨d, r, acc, hl, rfl, h1, h21, h22, h23, h5, hs, ha1, ha2⟩
          simp only at h1 h21 h22 h23 h5
          have hdl : d.length ≤ l.length := by rw [hl]; simp
          (focus refine wB2 (wa h1 (wa h21 (wa h22 (wa h23 h5)))) ?_ ?_; intro hb; rotate_left; intro hb; rotate_left)
          · have hlt : d.length < l.length := by omega
            obtain ⟨x, r, rfl, hmem, hcut, hle⟩ := split_at hl hlt
            have hx := ih x hmem (by omega)
            have hrg := deep_rng x (left - 1) (by omega)
            have hsub : IntKind.i64.wrap (left - 1) = left - 1 := i64 (by omega) (by omega)
            obtain ⟨k', n', c', e', t', l', ks'⟩ := x
            simp only [deeps] at hs
            simp only [enc] at hx
            refine wC1 (wa h1 (wa h21 (wa h22 (wa h23 (wa h5 (wa hlt (wa hle (wa hcut hsub)))))))) (wa hx trivial) ?_
            refine ⟨r.length, by simp, d ++ [.mk k' n' c' e' t' l' ks'], r, max acc (deep (.mk k' n' c' e' t' l' ks') (left - 1)), by simp [hl], rfl, ?_, ?_, ?_, ?_, ?_, hs, by omega, by omega⟩
            all_goals simp [upd_ap, h1, h21, h22]
            · rw [i64 (by omega) (by omega)]
          · obtain rfl := split_end hl hb
            simp only [deeps] at hs
            refine wB1 h5 ?_
            simp only [one1, frz_sc, Option.map_some, Option.some.injEq, AV.sc.injEq, Value.int.injEq, true_and]
            rw [i64 (by omega) (by omega)]
            omega
        · simp [upd_ap]
          simp [argsT]
  termination_by v => v
  decreasing_by
    simp_wf
    have := List.sizeOf_lt_of_mem hx
    omega
end Go.Proofs.Bv
namespace Go.Proofs.Bv
open Go
def sle (a b : ByteArray) : Bool := Op.bytesLess a.toList b.toList || a.toList == b.toList
def riseAt : ByteArray → List ByteArray → Bool
  | _, [] => true
  | p, k :: r => !sle k p && riseAt k r
def rises : List ByteArray → Bool
  | [] => true
  | k :: r => riseAt k r
def riseFrom (d r : List ByteArray) : Bool := match d.getLast? with | none => rises r | some p => riseAt p r
theorem riseFrom_concat (d : List ByteArray) (p : ByteArray) (r : List ByteArray) : riseFrom (d.concat p) r = riseAt p r := by simp [riseFrom]
theorem strs_at {ks d r : List ByteArray} {k : ByteArray} (h : ks = d ++ k :: r) : (strs ks)[d.length * 1]? = some (.sc (.string k)) := by
  subst h
  simp [strs]
theorem ok199 : codeOk 24 (Tryz.f199.body.getD .skip) = true := by kernel_rfl
set_option maxHeartbeats 1000000 in
theorem pc199 (G : Nat → Option (List AV)) (ks : List ByteArray) (hn : ks.length ≤ 140737488355328) : Pc (Cf G) 199 [.psl (strs ks) ks.length] (.sc (.bool (rises ks))) := by
  refine Pc_of (Gf_enter (C := Cf G) Tryz.func199 rfl ok199 (Nat.le_of_ble_eq_true rfl) ?_)
  simp only [Tryz.f199, Option.getD_some]
  refine wB1 trivial ?_
  refine Gc_loop_inv (fun m s => ∃ d r, ks = d ++ r ∧ m = r.length ∧ s.T 0 = .psl (strs ks) ks.length ∧ s.T 5 = .sc (.int .i64 ks.length) ∧ s.T 6 = .sc (.int .i64 d.length) ∧ riseFrom d r = rises ks) ?_ ks.length _ ⟨[], ks, rfl, rfl, ?_⟩
  · rintro m ⟨T, h, n⟩ ⟨d, r, hl, rfl, h0, h5, h6, hs⟩
    simp only at h0 h5 h6
    have hdl : d.length ≤ ks.length := by rw [hl]; simp
    cases r with
    | nil =>
      have hge : ¬ (d.length : Int) < (ks.length : Int) := by rw [hl]; simp
      refine wB1 (wa h0 (wa h5 (wa h6 hge))) ?_
      simp only [one1, frz_sc, Option.map_some, ← hs, riseFrom]
      cases d.getLast? <;> rfl
    | cons k r =>
      have hlt : (d.length : Int) < (ks.length : Int) := by rw [hl]; simp; omega
      have hltn : d.length < ks.length := by omega
      have hk := strs_at hl
      rcases List.eq_nil_or_concat d with rfl | ⟨d, p, rfl⟩
      · simp only [List.length_nil, Int.natCast_zero] at h6 hlt hk
        refine wB1 (wa h0 (wa h5 (wa h6 hlt))) ?_
        refine ⟨r.length, by simp, [k], r, by simpa using hl, rfl, ?_, ?_, ?_, ?_⟩
        · simp [upd_ap, tAt, h0]
        · simp [upd_ap, tAt, h5]
        · simp [upd_ap, tAt]
          rw [i64 (by omega) (by omega)]
        · rw [← hs]
          rfl
      · have hp : (strs ks)[d.length * 1]? = some (.sc (.string p)) := strs_at (r := k :: r) (by rw [hl]; simp)
        have hlen : (d.concat p).length = d.length + 1 := by simp
        rw [hlen] at h6 hlt hltn hk
        have hsub : IntKind.i64.wrap (((d.length + 1 : Nat) : Int) - 1) = (d.length : Int) := by rw [i64 (by omega) (by omega)]; omega
        have hpos : (0 : Int) < ((d.length + 1 : Nat) : Int) := by omega
        have hltp : d.length < ks.length := by omega
        (focus refine wB2 (wa h0 (wa h5 (wa h6 (wa hlt (wa hltn (wa hltp (wa hk (wa hp (wa hsub hpos))))))))) ?_ ?_; intro hb; rotate_left; intro hb; rotate_left)
        · rw [← hs, riseFrom_concat, riseAt, show sle k p = true from hb]
          rfl
        · have hb' : sle k p = false := hb
          refine ⟨r.length, by simp, (d.concat p).concat k, r, by rw [hl]; simp, rfl, ?_, ?_, ?_, ?_⟩
          · simp [upd_ap, tAt, h0]
          · simp [upd_ap, tAt, h5]
          · simp [upd_ap, tAt]
            rw [i64 (by omega) (by omega)]
            omega
          · rw [← hs, riseFrom_concat, riseFrom_concat, riseAt, hb', Bool.not_false, Bool.true_and]
  · simp [upd_ap, argsT, riseFrom]
end Go.Proofs.Bv
namespace Go.Proofs.Bv
open Go
def noText (t : ByteArray) : Bool := t.toList == (ByteArray.mk #[]).toList
def used : JV → Bool
  | .mk k _ _ _ t l ks => (decide (k = 4) || noText t) && (decide (5 ≤ k) || decide ((l.length : Int) = 0)) && decide ((ks.length : Int) = if k = 6 then (l.length : Int) else 0)
theorem ok198 : codeOk 36 (Tryz.f198.body.getD .skip) = true := by kernel_rfl
set_option maxHeartbeats 4000000 in
theorem pc198 (G : Nat → Option (List AV)) : (v : JV) → Fit v → Pc (Cf G) 198 [.agg (enc v)] (.sc (.bool (used v)))
  | .mk k ng cf ex t l ks => fun hfit => by
    refine Pc_of (Gf_enter (C := Cf G) Tryz.func198 rfl ok198 (Nat.le_of_ble_eq_true rfl) ?_)
    simp only [Tryz.f198, Option.getD_some]
    by_cases e6 : k = 6
    · subst e6
      cases et : (t.toList == (ByteArray.mk #[]).toList)
      all_goals
        refine wB1 et ?_
        simp only [one1, frz_sc, Option.map_some, used, noText, et]
        simp
    · by_cases e4 : k = 4
      · subst e4
        cases el : decide ((l.length : Int) = 0)
        all_goals
          refine wB1 el ?_
          simp only [one1, frz_sc, Option.map_some, used, noText, el]
          simp
      · by_cases e5 : 5 ≤ k
        · cases et : (t.toList == (ByteArray.mk #[]).toList)
          all_goals
            refine wB1 (wa et (wa e6 (wa e4 e5))) ?_
            simp only [one1, frz_sc, Option.map_some, used, noText, et, e6, e4, e5]
            simp
        · cases et : (t.toList == (ByteArray.mk #[]).toList)
          all_goals
            cases el : decide ((l.length : Int) = 0)
            all_goals
              refine wB1 (wa et (wa el (wa e6 (wa e4 e5)))) ?_
              simp only [one1, frz_sc, Option.map_some, used, noText, et, el, e6, e4, e5]
              simp
theorem ok139 : codeOk 5 (Tryz.f139.body.getD .skip) = true := by kernel_rfl
theorem pc139 (G : Nat → Option (List AV)) : (v : JV) → Fit v → Pc (Cf G) 139 [.agg (enc v)] (.sc (.int .i64 (deep v 1000)))
  | .mk k ng cf ex t l ks => fun hfit => by
    have hc := pc193 G (.mk k ng cf ex t l ks) 1000 hfit (by omega) (by omega)
    simp only [enc] at hc
    refine Pc_of (Gf_enter (C := Cf G) Tryz.func139 rfl ok139 (Nat.le_of_ble_eq_true rfl) ?_)
    simp only [Tryz.f139, Option.getD_some]
    refine wC1 trivial (wa hc trivial) ?_
    simp only [one1, frz_sc, Option.map_some]
end Go.Proofs.Bv
namespace Go.Proofs.Bv
open Go
def or2 (a b : Int) : Int := if a = 0 then b else a
theorem ok46 : codeOk 18 (Tryz.f46.body.getD .skip) = true := by kernel_rfl
set_option maxHeartbeats 1000000 in
theorem pc46 (G : Nat → Option (List AV)) (a b : Int) : Pc (Cf G) 46 [.psl [.sc (.int .i64 a), .sc (.int .i64 b)] 2] (.sc (.int .i64 (or2 a b))) := by
  have w1 : IntKind.i64.wrap 1 = 1 := i64 (by omega) (by omega)
  have w2 : IntKind.i64.wrap 2 = 2 := i64 (by omega) (by omega)
  have n1 : ∀ k, asNat (.sc (.int k 1)) = some 1 := fun k => rfl
  refine Pc_of (Gf_enter (C := Cf G) Tryz.func46 rfl ok46 (Nat.le_of_ble_eq_true rfl) ?_)
  simp only [Tryz.f46, Option.getD_some]
  by_cases ha : a = 0
  · by_cases hbz : b = 0
    · refine wB1 (wa ha (wa hbz (wa w1 (wa w2 (wa n1 (wa @Int.cast_ofNat_Int @Int.toNat_one)))))) ?_
      refine st_loop ?_
      refine wB1 (wa ha (wa hbz (wa w1 (wa w2 (wa n1 (wa @Int.cast_ofNat_Int @Int.toNat_one)))))) ?_
      refine st_loop ?_
      refine wB1 (wa ha (wa hbz (wa w1 (wa w2 (wa n1 (wa @Int.cast_ofNat_Int @Int.toNat_one)))))) ?_
      refine st_loop ?_
      refine wB1 (wa ha (wa hbz (wa w1 (wa w2 (wa n1 (wa @Int.cast_ofNat_Int @Int.toNat_one)))))) ?_
      all_goals simp only [one1, frz_sc, Option.map_some, or2, ha, hbz, if_true]
    · refine wB1 (wa ha (wa hbz (wa w1 (wa w2 (wa n1 (wa @Int.cast_ofNat_Int @Int.toNat_one)))))) ?_
      refine st_loop ?_
      refine wB1 (wa ha (wa hbz (wa w1 (wa w2 (wa n1 (wa @Int.cast_ofNat_Int @Int.toNat_one)))))) ?_
      refine st_loop ?_
      refine wB1 (wa ha (wa hbz (wa w1 (wa w2 (wa n1 (wa @Int.cast_ofNat_Int @Int.toNat_one)))))) ?_
      all_goals simp only [one1, frz_sc, Option.map_some, or2, ha, if_true]
  · refine wB1 (wa ha (wa w1 (wa w2 (wa n1 (wa @Int.cast_ofNat_Int @Int.toNat_one))))) ?_
    refine st_loop ?_
    refine wB1 (wa ha (wa w1 (wa w2 (wa n1 (wa @Int.cast_ofNat_Int @Int.toNat_one))))) ?_
    all_goals simp only [one1, frz_sc, Option.map_some, or2, ha, if_false]
end Go.Proofs.Bv
namespace Go.Proofs.Bv
open Go
def cmpI (a b : Int) : Int := if a < b then -1 else if b < a then 1 else 0
theorem ok216 : codeOk 6 (Tryz.f216.body.getD .skip) = true := by kernel_rfl
theorem ok361 : codeOk 20 (Tryz.f361.body.getD .skip) = true := by kernel_rfl
theorem ok366 : codeOk 6 (Tryz.f366.body.getD .skip) = true := by kernel_rfl
theorem ok362 : codeOk 20 (Tryz.f362.body.getD .skip) = true := by kernel_rfl
theorem ok274 : codeOk 20 (Tryz.f274.body.getD .skip) = true := by kernel_rfl
theorem ok305 : codeOk 24 (Tryz.f305.body.getD .skip) = true := by kernel_rfl
theorem ok302 : codeOk 10 (Tryz.f302.body.getD .skip) = true := by kernel_rfl
theorem ok330 : codeOk 11 (Tryz.f330.body.getD .skip) = true := by kernel_rfl
theorem pc216 (G : Nat → Option (List AV)) (a : Int) : Pc (Cf G) 216 [.sc (.int .i64 a)] (.sc (.bool false)) := by
  refine Pc_of (Gf_enter (C := Cf G) Tryz.func216 rfl ok216 (Nat.le_of_ble_eq_true rfl) ?_)
  simp only [Tryz.f216, Option.getD_some]
  refine wB1 trivial ?_
  simp [one1, frz_sc]
theorem pc366 (G : Nat → Option (List AV)) (a : Int) : Pc (Cf G) 366 [.sc (.int .u32 a)] (.sc (.bool false)) := by
  refine Pc_of (Gf_enter (C := Cf G) Tryz.func366 rfl ok366 (Nat.le_of_ble_eq_true rfl) ?_)
  simp only [Tryz.f366, Option.getD_some]
  refine wB1 trivial ?_
  simp [one1, frz_sc]
theorem pc361 (G : Nat → Option (List AV)) (a b : Int) : Pc (Cf G) 361 [.sc (.int .i64 a), .sc (.int .i64 b)] (.sc (.int .i64 (cmpI a b))) := by
  refine Pc_of (Gf_enter (C := Cf G) Tryz.func361 rfl ok361 (Nat.le_of_ble_eq_true rfl) ?_)
  simp only [Tryz.f361, Option.getD_some]
  (focus refine wC3 trivial (wa (pc216 G a) (wa (pc216 G b) trivial)) ?_ ?_ ?_; intro hb; rotate_left; intro hb hb; rotate_left; intro hb hb; rotate_left)
  all_goals first | (simp [one1, frz_sc, cmpI]; done) | (simp [one1, frz_sc, cmpI]; omega)
theorem pc362 (G : Nat → Option (List AV)) (a b : Int) : Pc (Cf G) 362 [.sc (.int .u32 a), .sc (.int .u32 b)] (.sc (.int .i64 (cmpI a b))) := by
  refine Pc_of (Gf_enter (C := Cf G) Tryz.func362 rfl ok362 (Nat.le_of_ble_eq_true rfl) ?_)
  simp only [Tryz.f362, Option.getD_some]
  (focus refine wC3 trivial (wa (pc366 G a) (wa (pc366 G b) trivial)) ?_ ?_ ?_; intro hb; rotate_left; intro hb hb; rotate_left; intro hb hb; rotate_left)
  all_goals first | (simp [one1, frz_sc, cmpI]; done) | (simp [one1, frz_sc, cmpI]; omega)
def natChk (l : List Int) : Int := if 256 < (l.length : Int) then 5 else if l.getLast? = some 0 then 9 else 0
theorem u32s_snoc (d : List Int) (x : Int) : (u32s (d ++ [x]))[d.length * 1]? = some (.sc (.int .u32 x)) := by simp [u32s]
theorem len1 {d : List Int} {x : Int} (h : d.length ≤ 140737488355328) : IntKind.i64.wrap (((d ++ [x]).length : Int) - 1) = (d.length : Int) := by
  rw [i64 (by simp only [List.length_append, List.length_cons, List.length_nil]; omega) (by simp only [List.length_append, List.length_cons, List.length_nil]; omega)]
  simp
theorem pc274 (G : Nat → Option (List AV)) (l : List Int) (hl : l.length ≤ 140737488355328) : Pc (Cf G) 274 [.psl (u32s l) l.length] (.sc (.int .i64 (natChk l))) := by
  refine Pc_of (Gf_enter (C := Cf G) Tryz.func274 rfl ok274 (Nat.le_of_ble_eq_true rfl) ?_)
  simp only [Tryz.f274, Option.getD_some]
  rcases List.eq_nil_or_concat l with rfl | ⟨d, x, rfl⟩
  · refine wB1 (@u32s.eq_1) ?_
    all_goals simp_all [one1, frz_sc, natChk]
  · rw [List.concat_eq_append] at hl ⊢
    have h1 := len1 (d := d) (x := x) (by simp at hl; omega)
    have h2 := u32s_snoc d x
    have h3 : d.length < (d ++ [x]).length := by simp
    (focus refine wB4 (wa h1 (wa h2 h3)) ?_ ?_ ?_ ?_; intro hb; rotate_left; intro hb hb hb; rotate_left; intro hb hb hb; rotate_left; intro hb hb; rotate_left)
    all_goals clear h1 h2 h3
    all_goals simp_all [one1, frz_sc, natChk]
    all_goals omega
theorem trim_take (l : List Int) (k : Nat) (hk : k < l.length) (h0 : l[k]? = some 0) : trimL (l.take (k + 1)) = trimL (l.take k) := by
  rw [List.take_add_one, h0]
  exact trimL_snoc_zero _
theorem trim_stop (l : List Int) (k : Nat) {x : Int} (h0 : l[k]? = some x) (hx : x ≠ 0) : trimL (l.take (k + 1)) = l.take (k + 1) := by
  rw [List.take_add_one, h0]
  exact trimL_snoc hx _
theorem u32s_cut (l : List Int) (k : Nat) : cut (u32s l) 0 (k * 1) = u32s (l.take k) := by simp [cut, u32s, List.map_take]
theorem u32s_at {l : List Int} {k : Nat} {x : Int} (h : l[k]? = some x) : (u32s l)[k * 1]? = some (.sc (.int .u32 x)) := by simp [u32s, h]
theorem bnds_hi {len k : Nat} (hk : k ≤ len) : bnds len none (some (.sc (.int .i64 (k : Int)))) = some (0, k) := by
  simp [bnds, asNat, hk]
theorem cut_0 (l : List AV) (k : Nat) : cut l (0 * 1) k = cut l 0 k := by simp
theorem pc305 (G : Nat → Option (List AV)) (l : List Int) (hl : l.length ≤ 140737488355328) : Pc (Cf G) 305 [.psl (u32s l) l.length] (.psl (u32s (trimL l)) (trimL l).length) := by
  refine Pc_of (Gf_enter (C := Cf G) Tryz.func305 rfl ok305 (Nat.le_of_ble_eq_true rfl) ?_)
  simp only [Tryz.f305, Option.getD_some]
  refine wB1 trivial ?_
  refine Gc_loop_inv (fun m st => ∃ k, k ≤ l.length ∧ m = k ∧ st.T 0 = .psl (u32s (l.take k)) k ∧ trimL (l.take k) = trimL l) ?_ l.length _ ⟨l.length, Nat.le_refl _, rfl, ?_⟩
  · rintro m ⟨T, h, n⟩ ⟨k, hk, rfl, h0, ht⟩
    simp only at h0
    have hlen : (l.take m).length = m := by simp; omega
    cases m with
    | zero =>
      have hz : trimL l = [] := by rw [← ht]; rfl
      refine wB1 h0 ?_
      simp only [one1, frz_n, Option.map_some, hz]
      rfl
    | succ k =>
      have hpos : (0 : Int) < ((k + 1 : Nat) : Int) := by omega
      have hne : ¬ ((k + 1 : Nat) : Int) = 0 := by omega
      have hsub : IntKind.i64.wrap (((k + 1 : Nat) : Int) - 1) = (k : Int) := by rw [i64 (by omega) (by omega)]; omega
      have hlt : k < k + 1 := by omega
      have hbd : bnds (k + 1) none (some (.sc (.int .i64 (k : Int)))) = some (0, k) := bnds_hi (by omega)
      obtain ⟨x, hx⟩ : ∃ x, l[k]? = some x := ⟨l[k]'(by omega), List.getElem?_eq_getElem (by omega)⟩
      have hx' : (u32s (l.take (k + 1)))[k * 1]? = some (.sc (.int .u32 x)) := u32s_at (by rw [List.getElem?_take, if_pos (by omega), hx])
      have hcut : cut (u32s (l.take (k + 1))) (0 * 1) ((k - 0) * 1) = u32s (l.take k) := by
        rw [cut_0, Nat.sub_zero, u32s_cut, List.take_take, Nat.min_eq_left (by omega)]
      by_cases hx0 : x = 0
      · subst hx0
        refine wB1 (wa h0 (wa hpos (wa hsub (wa hlt (wa hbd (wa hx' hcut)))))) ?_
        refine ⟨k, by omega, k, by omega, rfl, ?_, ?_⟩
        · simp [upd_ap]
        · rw [← ht, trim_take l k (by omega) hx]
      · refine wB1 (wa h0 (wa hpos (wa hsub (wa hlt (wa hbd (wa hx' (wa hx0 hne))))))) ?_
        have e : trimL l = l.take (k + 1) := by rw [← ht, trim_stop l k hx hx0]
        simp only [one1, frz_l, Option.map_some, e, List.length_take]
        rw [Nat.min_eq_left (by omega)]
  · simp [upd_ap, argsT]
end Go.Proofs.Bv
