/-
  A part of the proof of KindsBackUptoCardSaid: BkAlive, BkTypes, BkTypes2, BkSet, BkOrcs.
  Conditions: those that each part names.
-/
import Derived.Test.YtegdndonafbcdaaGreatDoorKb13
import Derived.KernelRfl
import Derived.Test.YtegdndonafbcdaaGreatDoorProg
set_option linter.unusedSimpArgs false
set_option linter.unusedVariables false
namespace Go.Proofs.Bv
open Go
def isTrue : Option AV → Bool
  | some (.sc (.bool true)) => true
  | _ => false
theorem alive_eval (G : Nat → Option (List AV)) : isTrue (pcall (lv (Cf G) 40).fc 11 []) = true := by kernel_rfl
theorem pc11 (G : Nat → Option (List AV)) : Pc (Cf G) 11 [] (.sc (.bool true)) := by
  have h := alive_eval G
  refine ⟨40, ?_⟩
  unfold isTrue at h
  split at h
  · rename_i e
    exact e
  · cases h
end Go.Proofs.Bv
namespace Go.Proofs.Bv
open Go
theorem sz1 : szOf Tryz.prog 1 = some 1 := by kernel_rfl
theorem ag1 : aggOf Tryz.prog 1 = some false := by kernel_rfl
theorem ze1 : zeroA Tryz.prog 1 = some [.sc .nilFunc] := by kernel_rfl
theorem sz2 : szOf Tryz.prog 2 = some 1 := by kernel_rfl
theorem ag2 : aggOf Tryz.prog 2 = some false := by kernel_rfl
theorem ze2 : zeroA Tryz.prog 2 = some [.sc (.int .i64 0)] := by kernel_rfl
theorem sz3 : szOf Tryz.prog 3 = some 1 := by kernel_rfl
theorem ag3 : aggOf Tryz.prog 3 = some false := by kernel_rfl
theorem ze3 : zeroA Tryz.prog 3 = some [.sc (.int .i64 0)] := by kernel_rfl
theorem sz4 : szOf Tryz.prog 4 = some 1 := by kernel_rfl
theorem ag4 : aggOf Tryz.prog 4 = some false := by kernel_rfl
theorem ze4 : zeroA Tryz.prog 4 = some [.sc (.bool false)] := by kernel_rfl
theorem sz5 : szOf Tryz.prog 5 = some 1 := by kernel_rfl
theorem ag5 : aggOf Tryz.prog 5 = some false := by kernel_rfl
theorem ze5 : zeroA Tryz.prog 5 = some [.sc (.int .u8 0)] := by kernel_rfl
theorem sz6 : szOf Tryz.prog 6 = some 1 := by kernel_rfl
theorem ag6 : aggOf Tryz.prog 6 = some false := by kernel_rfl
theorem ze6 : zeroA Tryz.prog 6 = some [.sc (.int .u8 0)] := by kernel_rfl
theorem sz7 : szOf Tryz.prog 7 = some 4 := by kernel_rfl
theorem ag7 : aggOf Tryz.prog 7 = some true := by kernel_rfl
theorem ze7 : zeroA Tryz.prog 7 = some [.sc (.int .i64 0), .sc (.int .i64 0), .sc (.bool false), .sc (.int .u8 0)] := by kernel_rfl
theorem sz8 : szOf Tryz.prog 8 = some 4 := by kernel_rfl
theorem ag8 : aggOf Tryz.prog 8 = some true := by kernel_rfl
theorem ze8 : zeroA Tryz.prog 8 = some [.sc (.int .i64 0), .sc (.int .i64 0), .sc (.bool false), .sc (.int .u8 0)] := by kernel_rfl
theorem sz9 : szOf Tryz.prog 9 = some 1 := by kernel_rfl
theorem ag9 : aggOf Tryz.prog 9 = some false := by kernel_rfl
theorem ze9 : zeroA Tryz.prog 9 = some [.sc (.string ByteArray.empty)] := by kernel_rfl
theorem sz10 : szOf Tryz.prog 10 = some 1 := by kernel_rfl
theorem ag10 : aggOf Tryz.prog 10 = some false := by kernel_rfl
theorem ze10 : zeroA Tryz.prog 10 = some [.sc (.string ByteArray.empty)] := by kernel_rfl
theorem sz11 : szOf Tryz.prog 11 = some 1 := by kernel_rfl
theorem ag11 : aggOf Tryz.prog 11 = some false := by kernel_rfl
theorem ze11 : zeroA Tryz.prog 11 = some [.sc (.string ByteArray.empty)] := by kernel_rfl
theorem sz12 : szOf Tryz.prog 12 = some 1 := by kernel_rfl
theorem ag12 : aggOf Tryz.prog 12 = some false := by kernel_rfl
theorem ze12 : zeroA Tryz.prog 12 = some [.sc (.int .u64 0)] := by kernel_rfl
theorem sz13 : szOf Tryz.prog 13 = some 2 := by kernel_rfl
theorem ag13 : aggOf Tryz.prog 13 = some true := by kernel_rfl
theorem ze13 : zeroA Tryz.prog 13 = some [.sc (.string ByteArray.empty), .sc (.int .u64 0)] := by kernel_rfl
theorem sz14 : szOf Tryz.prog 14 = some 2 := by kernel_rfl
theorem ag14 : aggOf Tryz.prog 14 = some true := by kernel_rfl
theorem ze14 : zeroA Tryz.prog 14 = some [.sc (.string ByteArray.empty), .sc (.int .u64 0)] := by kernel_rfl
theorem sz15 : szOf Tryz.prog 15 = some 1 := by kernel_rfl
theorem ag15 : aggOf Tryz.prog 15 = some false := by kernel_rfl
theorem ze15 : zeroA Tryz.prog 15 = some [.sc (.pointer none)] := by kernel_rfl
theorem sz16 : szOf Tryz.prog 16 = some 1 := by kernel_rfl
theorem ag16 : aggOf Tryz.prog 16 = some false := by kernel_rfl
theorem ze16 : zeroA Tryz.prog 16 = some [.sc (.pointer none)] := by kernel_rfl
theorem sz17 : szOf Tryz.prog 17 = some 1 := by kernel_rfl
theorem ag17 : aggOf Tryz.prog 17 = some false := by kernel_rfl
theorem ze17 : zeroA Tryz.prog 17 = some [.sc (.pointer none)] := by kernel_rfl
theorem sz18 : szOf Tryz.prog 18 = some 1 := by kernel_rfl
theorem ag18 : aggOf Tryz.prog 18 = some true := by kernel_rfl
theorem ze18 : zeroA Tryz.prog 18 = some [.sc (.pointer none)] := by kernel_rfl
theorem sz19 : szOf Tryz.prog 19 = some 1 := by kernel_rfl
theorem ag19 : aggOf Tryz.prog 19 = some true := by kernel_rfl
theorem ze19 : zeroA Tryz.prog 19 = some [.sc (.pointer none)] := by kernel_rfl
theorem sz20 : szOf Tryz.prog 20 = some 1 := by kernel_rfl
theorem ag20 : aggOf Tryz.prog 20 = some false := by kernel_rfl
theorem ze20 : zeroA Tryz.prog 20 = some [.sc .nilIface] := by kernel_rfl
theorem sz21 : szOf Tryz.prog 21 = some 1 := by kernel_rfl
theorem ag21 : aggOf Tryz.prog 21 = some false := by kernel_rfl
theorem ze21 : zeroA Tryz.prog 21 = some [.sc (.int .i32 0)] := by kernel_rfl
theorem sz22 : szOf Tryz.prog 22 = some 1 := by kernel_rfl
theorem ag22 : aggOf Tryz.prog 22 = some false := by kernel_rfl
theorem ze22 : zeroA Tryz.prog 22 = some [.nilS] := by kernel_rfl
theorem sz23 : szOf Tryz.prog 23 = some 3 := by kernel_rfl
theorem ag23 : aggOf Tryz.prog 23 = some true := by kernel_rfl
theorem ze23 : zeroA Tryz.prog 23 = some [.sc (.bool false), .nilS, .sc (.int .i64 0)] := by kernel_rfl
theorem sz24 : szOf Tryz.prog 24 = some 3 := by kernel_rfl
theorem ag24 : aggOf Tryz.prog 24 = some true := by kernel_rfl
theorem ze24 : zeroA Tryz.prog 24 = some [.sc (.bool false), .nilS, .sc (.int .i64 0)] := by kernel_rfl
theorem sz25 : szOf Tryz.prog 25 = some 1 := by kernel_rfl
theorem ag25 : aggOf Tryz.prog 25 = some false := by kernel_rfl
theorem ze25 : zeroA Tryz.prog 25 = some [.nilS] := by kernel_rfl
theorem sz26 : szOf Tryz.prog 26 = some 1 := by kernel_rfl
theorem ag26 : aggOf Tryz.prog 26 = some false := by kernel_rfl
theorem ze26 : zeroA Tryz.prog 26 = some [.nilS] := by kernel_rfl
theorem sz27 : szOf Tryz.prog 27 = some 7 := by kernel_rfl
theorem ag27 : aggOf Tryz.prog 27 = some true := by kernel_rfl
theorem ze27 : zeroA Tryz.prog 27 = some [.sc (.int .i64 0), .sc (.bool false), .nilS, .sc (.int .i64 0), .sc (.string ByteArray.empty), .nilS, .nilS] := by kernel_rfl
theorem sz28 : szOf Tryz.prog 28 = some 7 := by kernel_rfl
theorem ag28 : aggOf Tryz.prog 28 = some true := by kernel_rfl
theorem ze28 : zeroA Tryz.prog 28 = some [.sc (.int .i64 0), .sc (.bool false), .nilS, .sc (.int .i64 0), .sc (.string ByteArray.empty), .nilS, .nilS] := by kernel_rfl
theorem sz29 : szOf Tryz.prog 29 = some 1 := by kernel_rfl
theorem ag29 : aggOf Tryz.prog 29 = some false := by kernel_rfl
theorem ze29 : zeroA Tryz.prog 29 = some [.sc .nilFunc] := by kernel_rfl
theorem sz30 : szOf Tryz.prog 30 = some 1 := by kernel_rfl
theorem ag30 : aggOf Tryz.prog 30 = some false := by kernel_rfl
theorem ze30 : zeroA Tryz.prog 30 = some [.sc (.int .i64 0)] := by kernel_rfl
theorem sz32 : szOf Tryz.prog 32 = some 1 := by kernel_rfl
theorem ag32 : aggOf Tryz.prog 32 = some false := by kernel_rfl
theorem ze32 : zeroA Tryz.prog 32 = some [.sc .nilFunc] := by kernel_rfl
theorem sz33 : szOf Tryz.prog 33 = some 1 := by kernel_rfl
theorem ag33 : aggOf Tryz.prog 33 = some false := by kernel_rfl
theorem ze33 : zeroA Tryz.prog 33 = some [.sc .nilFunc] := by kernel_rfl
theorem sz34 : szOf Tryz.prog 34 = some 1 := by kernel_rfl
theorem ag34 : aggOf Tryz.prog 34 = some false := by kernel_rfl
theorem ze34 : zeroA Tryz.prog 34 = some [.sc .nilFunc] := by kernel_rfl
theorem sz35 : szOf Tryz.prog 35 = some 1 := by kernel_rfl
theorem ag35 : aggOf Tryz.prog 35 = some false := by kernel_rfl
theorem ze35 : zeroA Tryz.prog 35 = some [.sc .nilFunc] := by kernel_rfl
theorem sz36 : szOf Tryz.prog 36 = some 1 := by kernel_rfl
theorem ag36 : aggOf Tryz.prog 36 = some false := by kernel_rfl
theorem ze36 : zeroA Tryz.prog 36 = some [.sc .nilFunc] := by kernel_rfl
theorem sz37 : szOf Tryz.prog 37 = some 1 := by kernel_rfl
theorem ag37 : aggOf Tryz.prog 37 = some false := by kernel_rfl
theorem ze37 : zeroA Tryz.prog 37 = some [.sc .nilFunc] := by kernel_rfl
theorem sz39 : szOf Tryz.prog 39 = some 1 := by kernel_rfl
theorem ag39 : aggOf Tryz.prog 39 = some false := by kernel_rfl
theorem ze39 : zeroA Tryz.prog 39 = some [.sc .nilFunc] := by kernel_rfl
theorem sz40 : szOf Tryz.prog 40 = some 1 := by kernel_rfl
theorem ag40 : aggOf Tryz.prog 40 = some false := by kernel_rfl
theorem ze40 : zeroA Tryz.prog 40 = some [.sc .nilFunc] := by kernel_rfl
theorem sz41 : szOf Tryz.prog 41 = some 1 := by kernel_rfl
theorem ag41 : aggOf Tryz.prog 41 = some false := by kernel_rfl
theorem ze41 : zeroA Tryz.prog 41 = some [.sc .nilFunc] := by kernel_rfl
theorem sz42 : szOf Tryz.prog 42 = some 1 := by kernel_rfl
theorem ag42 : aggOf Tryz.prog 42 = some false := by kernel_rfl
theorem ze42 : zeroA Tryz.prog 42 = some [.sc .nilFunc] := by kernel_rfl
theorem sz43 : szOf Tryz.prog 43 = some 1 := by kernel_rfl
theorem ag43 : aggOf Tryz.prog 43 = some false := by kernel_rfl
theorem ze43 : zeroA Tryz.prog 43 = some [.sc .nilFunc] := by kernel_rfl
theorem sz45 : szOf Tryz.prog 45 = some 1 := by kernel_rfl
theorem ag45 : aggOf Tryz.prog 45 = some false := by kernel_rfl
theorem ze45 : zeroA Tryz.prog 45 = some [.sc .nilFunc] := by kernel_rfl
theorem sz46 : szOf Tryz.prog 46 = some 1 := by kernel_rfl
theorem ag46 : aggOf Tryz.prog 46 = some false := by kernel_rfl
theorem ze46 : zeroA Tryz.prog 46 = some [.sc .nilFunc] := by kernel_rfl
theorem sz48 : szOf Tryz.prog 48 = some 1 := by kernel_rfl
theorem ag48 : aggOf Tryz.prog 48 = some false := by kernel_rfl
theorem ze48 : zeroA Tryz.prog 48 = some [.sc .nilFunc] := by kernel_rfl
theorem sz50 : szOf Tryz.prog 50 = some 1 := by kernel_rfl
theorem ag50 : aggOf Tryz.prog 50 = some false := by kernel_rfl
theorem ze50 : zeroA Tryz.prog 50 = some [.sc .nilFunc] := by kernel_rfl
theorem sz52 : szOf Tryz.prog 52 = some 1 := by kernel_rfl
theorem ag52 : aggOf Tryz.prog 52 = some false := by kernel_rfl
theorem ze52 : zeroA Tryz.prog 52 = some [.sc .nilFunc] := by kernel_rfl
theorem sz53 : szOf Tryz.prog 53 = some 1 := by kernel_rfl
theorem ag53 : aggOf Tryz.prog 53 = some false := by kernel_rfl
theorem ze53 : zeroA Tryz.prog 53 = some [.sc .nilFunc] := by kernel_rfl
theorem sz54 : szOf Tryz.prog 54 = some 1 := by kernel_rfl
theorem ag54 : aggOf Tryz.prog 54 = some false := by kernel_rfl
theorem ze54 : zeroA Tryz.prog 54 = some [.sc .nilFunc] := by kernel_rfl
theorem sz55 : szOf Tryz.prog 55 = some 1 := by kernel_rfl
theorem ag55 : aggOf Tryz.prog 55 = some false := by kernel_rfl
theorem ze55 : zeroA Tryz.prog 55 = some [.sc .nilFunc] := by kernel_rfl
theorem sz56 : szOf Tryz.prog 56 = some 1 := by kernel_rfl
theorem ag56 : aggOf Tryz.prog 56 = some false := by kernel_rfl
theorem ze56 : zeroA Tryz.prog 56 = some [.sc .nilFunc] := by kernel_rfl
theorem sz57 : szOf Tryz.prog 57 = some 1 := by kernel_rfl
theorem ag57 : aggOf Tryz.prog 57 = some false := by kernel_rfl
theorem ze57 : zeroA Tryz.prog 57 = some [.sc .nilFunc] := by kernel_rfl
theorem sz58 : szOf Tryz.prog 58 = some 1 := by kernel_rfl
theorem ag58 : aggOf Tryz.prog 58 = some false := by kernel_rfl
theorem ze58 : zeroA Tryz.prog 58 = some [.sc .nilFunc] := by kernel_rfl
theorem sz59 : szOf Tryz.prog 59 = some 1 := by kernel_rfl
theorem ag59 : aggOf Tryz.prog 59 = some false := by kernel_rfl
theorem ze59 : zeroA Tryz.prog 59 = some [.sc .nilFunc] := by kernel_rfl
theorem sz61 : szOf Tryz.prog 61 = some 1 := by kernel_rfl
theorem ag61 : aggOf Tryz.prog 61 = some false := by kernel_rfl
theorem ze61 : zeroA Tryz.prog 61 = some [.sc .nilFunc] := by kernel_rfl
theorem sz63 : szOf Tryz.prog 63 = some 1 := by kernel_rfl
theorem ag63 : aggOf Tryz.prog 63 = some false := by kernel_rfl
theorem ze63 : zeroA Tryz.prog 63 = some [.sc .nilFunc] := by kernel_rfl
theorem sz64 : szOf Tryz.prog 64 = some 1 := by kernel_rfl
theorem ag64 : aggOf Tryz.prog 64 = some false := by kernel_rfl
theorem ze64 : zeroA Tryz.prog 64 = some [.sc .nilFunc] := by kernel_rfl
theorem sz65 : szOf Tryz.prog 65 = some 1 := by kernel_rfl
theorem ag65 : aggOf Tryz.prog 65 = some false := by kernel_rfl
theorem ze65 : zeroA Tryz.prog 65 = some [.sc .nilFunc] := by kernel_rfl
theorem sz66 : szOf Tryz.prog 66 = some 1 := by kernel_rfl
theorem ag66 : aggOf Tryz.prog 66 = some false := by kernel_rfl
theorem ze66 : zeroA Tryz.prog 66 = some [.sc .nilFunc] := by kernel_rfl
theorem sz67 : szOf Tryz.prog 67 = some 1 := by kernel_rfl
theorem ag67 : aggOf Tryz.prog 67 = some false := by kernel_rfl
theorem ze67 : zeroA Tryz.prog 67 = some [.sc .nilFunc] := by kernel_rfl
theorem sz68 : szOf Tryz.prog 68 = some 1 := by kernel_rfl
theorem ag68 : aggOf Tryz.prog 68 = some false := by kernel_rfl
theorem ze68 : zeroA Tryz.prog 68 = some [.sc .nilFunc] := by kernel_rfl
theorem sz69 : szOf Tryz.prog 69 = some 1 := by kernel_rfl
theorem ag69 : aggOf Tryz.prog 69 = some false := by kernel_rfl
theorem ze69 : zeroA Tryz.prog 69 = some [.sc .nilFunc] := by kernel_rfl
theorem sz70 : szOf Tryz.prog 70 = some 1 := by kernel_rfl
theorem ag70 : aggOf Tryz.prog 70 = some false := by kernel_rfl
theorem ze70 : zeroA Tryz.prog 70 = some [.nilS] := by kernel_rfl
theorem sz72 : szOf Tryz.prog 72 = some 1 := by kernel_rfl
theorem ag72 : aggOf Tryz.prog 72 = some false := by kernel_rfl
theorem ze72 : zeroA Tryz.prog 72 = some [.sc .nilFunc] := by kernel_rfl
theorem sz73 : szOf Tryz.prog 73 = some 1 := by kernel_rfl
theorem ag73 : aggOf Tryz.prog 73 = some false := by kernel_rfl
theorem ze73 : zeroA Tryz.prog 73 = some [.sc .nilFunc] := by kernel_rfl
theorem sz74 : szOf Tryz.prog 74 = some 1 := by kernel_rfl
theorem ag74 : aggOf Tryz.prog 74 = some false := by kernel_rfl
theorem ze74 : zeroA Tryz.prog 74 = some [.sc .nilFunc] := by kernel_rfl
theorem sz75 : szOf Tryz.prog 75 = some 1 := by kernel_rfl
theorem ag75 : aggOf Tryz.prog 75 = some false := by kernel_rfl
theorem ze75 : zeroA Tryz.prog 75 = some [.sc .nilFunc] := by kernel_rfl
theorem sz76 : szOf Tryz.prog 76 = some 1 := by kernel_rfl
theorem ag76 : aggOf Tryz.prog 76 = some false := by kernel_rfl
theorem ze76 : zeroA Tryz.prog 76 = some [.sc .nilFunc] := by kernel_rfl
theorem sz77 : szOf Tryz.prog 77 = some 1 := by kernel_rfl
theorem ag77 : aggOf Tryz.prog 77 = some false := by kernel_rfl
theorem ze77 : zeroA Tryz.prog 77 = some [.sc .nilFunc] := by kernel_rfl
theorem sz78 : szOf Tryz.prog 78 = some 1 := by kernel_rfl
theorem ag78 : aggOf Tryz.prog 78 = some false := by kernel_rfl
theorem ze78 : zeroA Tryz.prog 78 = some [.sc .nilFunc] := by kernel_rfl
theorem sz80 : szOf Tryz.prog 80 = some 1 := by kernel_rfl
theorem ag80 : aggOf Tryz.prog 80 = some false := by kernel_rfl
theorem ze80 : zeroA Tryz.prog 80 = some [.sc .nilFunc] := by kernel_rfl
theorem sz81 : szOf Tryz.prog 81 = some 1 := by kernel_rfl
theorem ag81 : aggOf Tryz.prog 81 = some false := by kernel_rfl
theorem ze81 : zeroA Tryz.prog 81 = some [.sc .nilFunc] := by kernel_rfl
theorem sz83 : szOf Tryz.prog 83 = some 1 := by kernel_rfl
theorem ag83 : aggOf Tryz.prog 83 = some false := by kernel_rfl
theorem ze83 : zeroA Tryz.prog 83 = some [.sc .nilFunc] := by kernel_rfl
theorem sz84 : szOf Tryz.prog 84 = some 1 := by kernel_rfl
theorem ag84 : aggOf Tryz.prog 84 = some false := by kernel_rfl
theorem ze84 : zeroA Tryz.prog 84 = some [.sc .nilFunc] := by kernel_rfl
theorem sz86 : szOf Tryz.prog 86 = some 1 := by kernel_rfl
theorem ag86 : aggOf Tryz.prog 86 = some false := by kernel_rfl
theorem ze86 : zeroA Tryz.prog 86 = some [.sc .nilFunc] := by kernel_rfl
theorem sz88 : szOf Tryz.prog 88 = some 1 := by kernel_rfl
theorem ag88 : aggOf Tryz.prog 88 = some false := by kernel_rfl
theorem ze88 : zeroA Tryz.prog 88 = some [.sc .nilFunc] := by kernel_rfl
theorem sz89 : szOf Tryz.prog 89 = some 1 := by kernel_rfl
theorem ag89 : aggOf Tryz.prog 89 = some false := by kernel_rfl
theorem ze89 : zeroA Tryz.prog 89 = some [.sc .nilFunc] := by kernel_rfl
theorem sz90 : szOf Tryz.prog 90 = some 1 := by kernel_rfl
theorem ag90 : aggOf Tryz.prog 90 = some false := by kernel_rfl
theorem ze90 : zeroA Tryz.prog 90 = some [.sc .nilFunc] := by kernel_rfl
theorem sz91 : szOf Tryz.prog 91 = some 1 := by kernel_rfl
theorem ag91 : aggOf Tryz.prog 91 = some false := by kernel_rfl
theorem ze91 : zeroA Tryz.prog 91 = some [.sc .nilFunc] := by kernel_rfl
theorem sz92 : szOf Tryz.prog 92 = some 1 := by kernel_rfl
theorem ag92 : aggOf Tryz.prog 92 = some false := by kernel_rfl
theorem ze92 : zeroA Tryz.prog 92 = some [.sc .nilFunc] := by kernel_rfl
theorem sz93 : szOf Tryz.prog 93 = some 1 := by kernel_rfl
theorem ag93 : aggOf Tryz.prog 93 = some false := by kernel_rfl
theorem ze93 : zeroA Tryz.prog 93 = some [.sc .nilFunc] := by kernel_rfl
theorem sz95 : szOf Tryz.prog 95 = some 1 := by kernel_rfl
theorem ag95 : aggOf Tryz.prog 95 = some false := by kernel_rfl
theorem ze95 : zeroA Tryz.prog 95 = some [.sc .nilFunc] := by kernel_rfl
theorem sz96 : szOf Tryz.prog 96 = some 1 := by kernel_rfl
theorem ag96 : aggOf Tryz.prog 96 = some false := by kernel_rfl
theorem ze96 : zeroA Tryz.prog 96 = some [.nilS] := by kernel_rfl
theorem sz98 : szOf Tryz.prog 98 = some 1 := by kernel_rfl
theorem ag98 : aggOf Tryz.prog 98 = some false := by kernel_rfl
theorem ze98 : zeroA Tryz.prog 98 = some [.sc .nilFunc] := by kernel_rfl
theorem sz99 : szOf Tryz.prog 99 = some 1 := by kernel_rfl
theorem ag99 : aggOf Tryz.prog 99 = some false := by kernel_rfl
theorem ze99 : zeroA Tryz.prog 99 = some [.sc .nilFunc] := by kernel_rfl
theorem sz100 : szOf Tryz.prog 100 = some 1 := by kernel_rfl
theorem ag100 : aggOf Tryz.prog 100 = some false := by kernel_rfl
theorem ze100 : zeroA Tryz.prog 100 = some [.sc .nilFunc] := by kernel_rfl
theorem sz101 : szOf Tryz.prog 101 = some 1 := by kernel_rfl
theorem ag101 : aggOf Tryz.prog 101 = some false := by kernel_rfl
theorem ze101 : zeroA Tryz.prog 101 = some [.sc .nilFunc] := by kernel_rfl
theorem sz102 : szOf Tryz.prog 102 = some 1 := by kernel_rfl
theorem ag102 : aggOf Tryz.prog 102 = some false := by kernel_rfl
theorem ze102 : zeroA Tryz.prog 102 = some [.sc (.int .u32 0)] := by kernel_rfl
theorem sz103 : szOf Tryz.prog 103 = some 1 := by kernel_rfl
theorem ag103 : aggOf Tryz.prog 103 = some false := by kernel_rfl
theorem ze103 : zeroA Tryz.prog 103 = some [.sc .nilFunc] := by kernel_rfl
theorem sz104 : szOf Tryz.prog 104 = some 1 := by kernel_rfl
theorem ag104 : aggOf Tryz.prog 104 = some false := by kernel_rfl
theorem ze104 : zeroA Tryz.prog 104 = some [.sc .nilFunc] := by kernel_rfl
theorem sz105 : szOf Tryz.prog 105 = some 1 := by kernel_rfl
theorem ag105 : aggOf Tryz.prog 105 = some false := by kernel_rfl
theorem ze105 : zeroA Tryz.prog 105 = some [.sc .nilFunc] := by kernel_rfl
theorem sz106 : szOf Tryz.prog 106 = some 1 := by kernel_rfl
theorem ag106 : aggOf Tryz.prog 106 = some false := by kernel_rfl
theorem ze106 : zeroA Tryz.prog 106 = some [.sc .nilFunc] := by kernel_rfl
theorem sz107 : szOf Tryz.prog 107 = some 1 := by kernel_rfl
theorem ag107 : aggOf Tryz.prog 107 = some false := by kernel_rfl
theorem ze107 : zeroA Tryz.prog 107 = some [.sc .nilFunc] := by kernel_rfl
theorem sz108 : szOf Tryz.prog 108 = some 1 := by kernel_rfl
theorem ag108 : aggOf Tryz.prog 108 = some false := by kernel_rfl
theorem ze108 : zeroA Tryz.prog 108 = some [.sc (.int .u64 0)] := by kernel_rfl
theorem sz109 : szOf Tryz.prog 109 = some 3 := by kernel_rfl
theorem ag109 : aggOf Tryz.prog 109 = some true := by kernel_rfl
theorem ze109 : zeroA Tryz.prog 109 = some [.sc (.bool false), .nilS, .sc (.int .i64 0)] := by kernel_rfl
theorem sz110 : szOf Tryz.prog 110 = some 3 := by kernel_rfl
theorem ag110 : aggOf Tryz.prog 110 = some true := by kernel_rfl
theorem ze110 : zeroA Tryz.prog 110 = some [.sc (.bool false), .nilS, .sc (.int .i64 0)] := by kernel_rfl
theorem sz111 : szOf Tryz.prog 111 = some 1 := by kernel_rfl
theorem ag111 : aggOf Tryz.prog 111 = some false := by kernel_rfl
theorem ze111 : zeroA Tryz.prog 111 = some [.sc .nilFunc] := by kernel_rfl
theorem sz112 : szOf Tryz.prog 112 = some 1 := by kernel_rfl
theorem ag112 : aggOf Tryz.prog 112 = some false := by kernel_rfl
theorem ze112 : zeroA Tryz.prog 112 = some [.sc .nilFunc] := by kernel_rfl
theorem sz113 : szOf Tryz.prog 113 = some 1 := by kernel_rfl
theorem ag113 : aggOf Tryz.prog 113 = some false := by kernel_rfl
theorem ze113 : zeroA Tryz.prog 113 = some [.sc .nilFunc] := by kernel_rfl
theorem sz114 : szOf Tryz.prog 114 = some 1 := by kernel_rfl
theorem ag114 : aggOf Tryz.prog 114 = some false := by kernel_rfl
theorem ze114 : zeroA Tryz.prog 114 = some [.sc .nilFunc] := by kernel_rfl
theorem sz115 : szOf Tryz.prog 115 = some 1 := by kernel_rfl
theorem ag115 : aggOf Tryz.prog 115 = some false := by kernel_rfl
theorem ze115 : zeroA Tryz.prog 115 = some [.sc .nilFunc] := by kernel_rfl
theorem sz116 : szOf Tryz.prog 116 = some 1 := by kernel_rfl
theorem ag116 : aggOf Tryz.prog 116 = some false := by kernel_rfl
theorem ze116 : zeroA Tryz.prog 116 = some [.sc .nilFunc] := by kernel_rfl
theorem sz117 : szOf Tryz.prog 117 = some 1 := by kernel_rfl
theorem ag117 : aggOf Tryz.prog 117 = some false := by kernel_rfl
theorem ze117 : zeroA Tryz.prog 117 = some [.sc .nilFunc] := by kernel_rfl
theorem sz118 : szOf Tryz.prog 118 = some 1 := by kernel_rfl
theorem ag118 : aggOf Tryz.prog 118 = some false := by kernel_rfl
theorem ze118 : zeroA Tryz.prog 118 = some [.sc .nilFunc] := by kernel_rfl
theorem sz119 : szOf Tryz.prog 119 = some 5 := by kernel_rfl
theorem ag119 : aggOf Tryz.prog 119 = some true := by kernel_rfl
theorem ze119 : zeroA Tryz.prog 119 = some [.sc (.bool false), .sc (.bool false), .sc (.string ByteArray.empty), .sc (.string ByteArray.empty), .sc (.string ByteArray.empty)] := by kernel_rfl
theorem sz120 : szOf Tryz.prog 120 = some 5 := by kernel_rfl
theorem ag120 : aggOf Tryz.prog 120 = some true := by kernel_rfl
theorem ze120 : zeroA Tryz.prog 120 = some [.sc (.bool false), .sc (.bool false), .sc (.string ByteArray.empty), .sc (.string ByteArray.empty), .sc (.string ByteArray.empty)] := by kernel_rfl
theorem sz122 : szOf Tryz.prog 122 = some 1 := by kernel_rfl
theorem ag122 : aggOf Tryz.prog 122 = some false := by kernel_rfl
theorem ze122 : zeroA Tryz.prog 122 = some [.sc .nilFunc] := by kernel_rfl
theorem sz124 : szOf Tryz.prog 124 = some 1 := by kernel_rfl
theorem ag124 : aggOf Tryz.prog 124 = some false := by kernel_rfl
theorem ze124 : zeroA Tryz.prog 124 = some [.sc .nilFunc] := by kernel_rfl
theorem sz125 : szOf Tryz.prog 125 = some 1 := by kernel_rfl
theorem ag125 : aggOf Tryz.prog 125 = some false := by kernel_rfl
theorem ze125 : zeroA Tryz.prog 125 = some [.sc .nilFunc] := by kernel_rfl
theorem sz127 : szOf Tryz.prog 127 = some 1 := by kernel_rfl
theorem ag127 : aggOf Tryz.prog 127 = some false := by kernel_rfl
theorem ze127 : zeroA Tryz.prog 127 = some [.sc .nilFunc] := by kernel_rfl
theorem sz128 : szOf Tryz.prog 128 = some 1 := by kernel_rfl
theorem ag128 : aggOf Tryz.prog 128 = some false := by kernel_rfl
theorem ze128 : zeroA Tryz.prog 128 = some [.sc .nilFunc] := by kernel_rfl
theorem sz129 : szOf Tryz.prog 129 = some 3 := by kernel_rfl
theorem ag129 : aggOf Tryz.prog 129 = some true := by kernel_rfl
theorem ze129 : zeroA Tryz.prog 129 = some [.sc (.bool false), .nilS, .sc (.int .i64 0)] := by kernel_rfl
theorem sz130 : szOf Tryz.prog 130 = some 3 := by kernel_rfl
theorem ag130 : aggOf Tryz.prog 130 = some true := by kernel_rfl
theorem ze130 : zeroA Tryz.prog 130 = some [.sc (.bool false), .nilS, .sc (.int .i64 0)] := by kernel_rfl
theorem sz131 : szOf Tryz.prog 131 = some 1 := by kernel_rfl
theorem ag131 : aggOf Tryz.prog 131 = some false := by kernel_rfl
theorem ze131 : zeroA Tryz.prog 131 = some [.nilS] := by kernel_rfl
theorem sz132 : szOf Tryz.prog 132 = some 1 := by kernel_rfl
theorem ag132 : aggOf Tryz.prog 132 = some false := by kernel_rfl
theorem ze132 : zeroA Tryz.prog 132 = some [.sc .nilFunc] := by kernel_rfl
theorem sz133 : szOf Tryz.prog 133 = some 1 := by kernel_rfl
theorem ag133 : aggOf Tryz.prog 133 = some false := by kernel_rfl
theorem ze133 : zeroA Tryz.prog 133 = some [.sc .nilFunc] := by kernel_rfl
theorem sz134 : szOf Tryz.prog 134 = some 1 := by kernel_rfl
theorem ag134 : aggOf Tryz.prog 134 = some false := by kernel_rfl
theorem ze134 : zeroA Tryz.prog 134 = some [.sc .nilFunc] := by kernel_rfl
theorem sz135 : szOf Tryz.prog 135 = some 1 := by kernel_rfl
theorem ag135 : aggOf Tryz.prog 135 = some false := by kernel_rfl
theorem ze135 : zeroA Tryz.prog 135 = some [.sc .nilFunc] := by kernel_rfl
theorem sz136 : szOf Tryz.prog 136 = some 1 := by kernel_rfl
theorem ag136 : aggOf Tryz.prog 136 = some false := by kernel_rfl
theorem ze136 : zeroA Tryz.prog 136 = some [.sc .nilFunc] := by kernel_rfl
theorem sz137 : szOf Tryz.prog 137 = some 1 := by kernel_rfl
theorem ag137 : aggOf Tryz.prog 137 = some false := by kernel_rfl
theorem ze137 : zeroA Tryz.prog 137 = some [.sc .nilFunc] := by kernel_rfl
theorem sz138 : szOf Tryz.prog 138 = some 1 := by kernel_rfl
theorem ag138 : aggOf Tryz.prog 138 = some false := by kernel_rfl
theorem ze138 : zeroA Tryz.prog 138 = some [.sc .nilFunc] := by kernel_rfl
theorem sz139 : szOf Tryz.prog 139 = some 1 := by kernel_rfl
theorem ag139 : aggOf Tryz.prog 139 = some false := by kernel_rfl
theorem ze139 : zeroA Tryz.prog 139 = some [.sc .nilFunc] := by kernel_rfl
theorem sz140 : szOf Tryz.prog 140 = some 1 := by kernel_rfl
theorem ag140 : aggOf Tryz.prog 140 = some false := by kernel_rfl
theorem ze140 : zeroA Tryz.prog 140 = some [.sc .nilFunc] := by kernel_rfl
theorem sz141 : szOf Tryz.prog 141 = some 1 := by kernel_rfl
theorem ag141 : aggOf Tryz.prog 141 = some false := by kernel_rfl
theorem ze141 : zeroA Tryz.prog 141 = some [.sc .nilFunc] := by kernel_rfl
theorem sz142 : szOf Tryz.prog 142 = some 1 := by kernel_rfl
theorem ag142 : aggOf Tryz.prog 142 = some false := by kernel_rfl
theorem ze142 : zeroA Tryz.prog 142 = some [.sc .nilFunc] := by kernel_rfl
theorem sz143 : szOf Tryz.prog 143 = some 1 := by kernel_rfl
theorem ag143 : aggOf Tryz.prog 143 = some false := by kernel_rfl
theorem ze143 : zeroA Tryz.prog 143 = some [.sc .nilFunc] := by kernel_rfl
theorem sz144 : szOf Tryz.prog 144 = some 1 := by kernel_rfl
theorem ag144 : aggOf Tryz.prog 144 = some false := by kernel_rfl
theorem ze144 : zeroA Tryz.prog 144 = some [.sc .nilFunc] := by kernel_rfl
theorem sz145 : szOf Tryz.prog 145 = some 1 := by kernel_rfl
theorem ag145 : aggOf Tryz.prog 145 = some false := by kernel_rfl
theorem ze145 : zeroA Tryz.prog 145 = some [.sc .nilFunc] := by kernel_rfl
theorem sz147 : szOf Tryz.prog 147 = some 1 := by kernel_rfl
theorem ag147 : aggOf Tryz.prog 147 = some false := by kernel_rfl
theorem ze147 : zeroA Tryz.prog 147 = some [.sc .nilFunc] := by kernel_rfl
theorem sz148 : szOf Tryz.prog 148 = some 1 := by kernel_rfl
theorem ag148 : aggOf Tryz.prog 148 = some false := by kernel_rfl
theorem ze148 : zeroA Tryz.prog 148 = some [.sc .nilFunc] := by kernel_rfl
theorem sz150 : szOf Tryz.prog 150 = some 1 := by kernel_rfl
theorem ag150 : aggOf Tryz.prog 150 = some false := by kernel_rfl
theorem ze150 : zeroA Tryz.prog 150 = some [.sc .nilFunc] := by kernel_rfl
theorem sz151 : szOf Tryz.prog 151 = some 1 := by kernel_rfl
theorem ag151 : aggOf Tryz.prog 151 = some false := by kernel_rfl
theorem ze151 : zeroA Tryz.prog 151 = some [.sc .nilFunc] := by kernel_rfl
theorem sz152 : szOf Tryz.prog 152 = some 1 := by kernel_rfl
theorem ag152 : aggOf Tryz.prog 152 = some false := by kernel_rfl
theorem ze152 : zeroA Tryz.prog 152 = some [.sc .nilFunc] := by kernel_rfl
theorem sz153 : szOf Tryz.prog 153 = some 1 := by kernel_rfl
theorem ag153 : aggOf Tryz.prog 153 = some false := by kernel_rfl
theorem ze153 : zeroA Tryz.prog 153 = some [.sc .nilFunc] := by kernel_rfl
theorem sz154 : szOf Tryz.prog 154 = some 1 := by kernel_rfl
theorem ag154 : aggOf Tryz.prog 154 = some false := by kernel_rfl
theorem ze154 : zeroA Tryz.prog 154 = some [.sc .nilFunc] := by kernel_rfl
theorem sz155 : szOf Tryz.prog 155 = some 1 := by kernel_rfl
theorem ag155 : aggOf Tryz.prog 155 = some false := by kernel_rfl
theorem ze155 : zeroA Tryz.prog 155 = some [.sc .nilFunc] := by kernel_rfl
theorem sz157 : szOf Tryz.prog 157 = some 1 := by kernel_rfl
theorem ag157 : aggOf Tryz.prog 157 = some false := by kernel_rfl
theorem ze157 : zeroA Tryz.prog 157 = some [.sc .nilFunc] := by kernel_rfl
theorem sz158 : szOf Tryz.prog 158 = some 1 := by kernel_rfl
theorem ag158 : aggOf Tryz.prog 158 = some false := by kernel_rfl
theorem ze158 : zeroA Tryz.prog 158 = some [.sc .nilFunc] := by kernel_rfl
theorem sz160 : szOf Tryz.prog 160 = some 1 := by kernel_rfl
theorem ag160 : aggOf Tryz.prog 160 = some false := by kernel_rfl
theorem ze160 : zeroA Tryz.prog 160 = some [.sc .nilFunc] := by kernel_rfl
theorem sz161 : szOf Tryz.prog 161 = some 1 := by kernel_rfl
theorem ag161 : aggOf Tryz.prog 161 = some false := by kernel_rfl
theorem ze161 : zeroA Tryz.prog 161 = some [.sc .nilFunc] := by kernel_rfl
theorem sz162 : szOf Tryz.prog 162 = some 1 := by kernel_rfl
theorem ag162 : aggOf Tryz.prog 162 = some false := by kernel_rfl
theorem ze162 : zeroA Tryz.prog 162 = some [.sc .nilFunc] := by kernel_rfl
theorem sz163 : szOf Tryz.prog 163 = some 1 := by kernel_rfl
theorem ag163 : aggOf Tryz.prog 163 = some false := by kernel_rfl
theorem ze163 : zeroA Tryz.prog 163 = some [.sc .nilFunc] := by kernel_rfl
theorem sz164 : szOf Tryz.prog 164 = some 1 := by kernel_rfl
theorem ag164 : aggOf Tryz.prog 164 = some false := by kernel_rfl
theorem ze164 : zeroA Tryz.prog 164 = some [.sc .nilFunc] := by kernel_rfl
theorem sz165 : szOf Tryz.prog 165 = some 1 := by kernel_rfl
theorem ag165 : aggOf Tryz.prog 165 = some false := by kernel_rfl
theorem ze165 : zeroA Tryz.prog 165 = some [.sc .nilFunc] := by kernel_rfl
theorem sz166 : szOf Tryz.prog 166 = some 1 := by kernel_rfl
theorem ag166 : aggOf Tryz.prog 166 = some false := by kernel_rfl
theorem ze166 : zeroA Tryz.prog 166 = some [.sc .nilFunc] := by kernel_rfl
theorem sz168 : szOf Tryz.prog 168 = some 1 := by kernel_rfl
theorem ag168 : aggOf Tryz.prog 168 = some false := by kernel_rfl
theorem ze168 : zeroA Tryz.prog 168 = some [.sc .nilFunc] := by kernel_rfl
theorem sz169 : szOf Tryz.prog 169 = some 1 := by kernel_rfl
theorem ag169 : aggOf Tryz.prog 169 = some false := by kernel_rfl
theorem ze169 : zeroA Tryz.prog 169 = some [.sc .nilFunc] := by kernel_rfl
theorem sz170 : szOf Tryz.prog 170 = some 1 := by kernel_rfl
theorem ag170 : aggOf Tryz.prog 170 = some false := by kernel_rfl
theorem ze170 : zeroA Tryz.prog 170 = some [.sc (.pointer none)] := by kernel_rfl
theorem sz171 : szOf Tryz.prog 171 = some 2 := by kernel_rfl
theorem ag171 : aggOf Tryz.prog 171 = some true := by kernel_rfl
theorem ze171 : zeroA Tryz.prog 171 = some [.sc (.string ByteArray.empty), .sc (.bool false)] := by kernel_rfl
theorem sz172 : szOf Tryz.prog 172 = some 2 := by kernel_rfl
theorem ag172 : aggOf Tryz.prog 172 = some true := by kernel_rfl
theorem ze172 : zeroA Tryz.prog 172 = some [.sc (.string ByteArray.empty), .sc (.bool false)] := by kernel_rfl
theorem sz173 : szOf Tryz.prog 173 = some 1 := by kernel_rfl
theorem ag173 : aggOf Tryz.prog 173 = some false := by kernel_rfl
theorem ze173 : zeroA Tryz.prog 173 = some [.sc .nilFunc] := by kernel_rfl
theorem sz174 : szOf Tryz.prog 174 = some 1 := by kernel_rfl
theorem ag174 : aggOf Tryz.prog 174 = some false := by kernel_rfl
theorem ze174 : zeroA Tryz.prog 174 = some [.sc .nilFunc] := by kernel_rfl
theorem sz175 : szOf Tryz.prog 175 = some 1 := by kernel_rfl
theorem ag175 : aggOf Tryz.prog 175 = some false := by kernel_rfl
theorem ze175 : zeroA Tryz.prog 175 = some [.sc .nilFunc] := by kernel_rfl
theorem sz176 : szOf Tryz.prog 176 = some 1 := by kernel_rfl
theorem ag176 : aggOf Tryz.prog 176 = some false := by kernel_rfl
theorem ze176 : zeroA Tryz.prog 176 = some [.sc .nilFunc] := by kernel_rfl
theorem sz177 : szOf Tryz.prog 177 = some 1 := by kernel_rfl
theorem ag177 : aggOf Tryz.prog 177 = some false := by kernel_rfl
theorem ze177 : zeroA Tryz.prog 177 = some [.sc .nilFunc] := by kernel_rfl
theorem sz178 : szOf Tryz.prog 178 = some 1 := by kernel_rfl
theorem ag178 : aggOf Tryz.prog 178 = some false := by kernel_rfl
theorem ze178 : zeroA Tryz.prog 178 = some [.nilS] := by kernel_rfl
theorem sz179 : szOf Tryz.prog 179 = some 1 := by kernel_rfl
theorem ag179 : aggOf Tryz.prog 179 = some false := by kernel_rfl
theorem ze179 : zeroA Tryz.prog 179 = some [.sc .nilFunc] := by kernel_rfl
theorem sz180 : szOf Tryz.prog 180 = some 1 := by kernel_rfl
theorem ag180 : aggOf Tryz.prog 180 = some false := by kernel_rfl
theorem ze180 : zeroA Tryz.prog 180 = some [.sc .nilFunc] := by kernel_rfl
theorem sz181 : szOf Tryz.prog 181 = some 1 := by kernel_rfl
theorem ag181 : aggOf Tryz.prog 181 = some false := by kernel_rfl
theorem ze181 : zeroA Tryz.prog 181 = some [.sc .nilFunc] := by kernel_rfl
theorem sz182 : szOf Tryz.prog 182 = some 1 := by kernel_rfl
theorem ag182 : aggOf Tryz.prog 182 = some false := by kernel_rfl
theorem ze182 : zeroA Tryz.prog 182 = some [.sc .nilFunc] := by kernel_rfl
theorem sz183 : szOf Tryz.prog 183 = some 1 := by kernel_rfl
theorem ag183 : aggOf Tryz.prog 183 = some false := by kernel_rfl
theorem ze183 : zeroA Tryz.prog 183 = some [.sc .nilFunc] := by kernel_rfl
theorem sz184 : szOf Tryz.prog 184 = some 1 := by kernel_rfl
theorem ag184 : aggOf Tryz.prog 184 = some false := by kernel_rfl
theorem ze184 : zeroA Tryz.prog 184 = some [.sc .nilFunc] := by kernel_rfl
theorem sz185 : szOf Tryz.prog 185 = some 1 := by kernel_rfl
theorem ag185 : aggOf Tryz.prog 185 = some false := by kernel_rfl
theorem ze185 : zeroA Tryz.prog 185 = some [.sc .nilFunc] := by kernel_rfl
theorem sz186 : szOf Tryz.prog 186 = some 1 := by kernel_rfl
theorem ag186 : aggOf Tryz.prog 186 = some false := by kernel_rfl
theorem ze186 : zeroA Tryz.prog 186 = some [.sc .nilFunc] := by kernel_rfl
theorem sz187 : szOf Tryz.prog 187 = some 1 := by kernel_rfl
theorem ag187 : aggOf Tryz.prog 187 = some false := by kernel_rfl
theorem ze187 : zeroA Tryz.prog 187 = some [.sc .nilFunc] := by kernel_rfl
theorem sz188 : szOf Tryz.prog 188 = some 1 := by kernel_rfl
theorem ag188 : aggOf Tryz.prog 188 = some false := by kernel_rfl
theorem ze188 : zeroA Tryz.prog 188 = some [.sc .nilFunc] := by kernel_rfl
theorem sz189 : szOf Tryz.prog 189 = some 1 := by kernel_rfl
theorem ag189 : aggOf Tryz.prog 189 = some false := by kernel_rfl
theorem ze189 : zeroA Tryz.prog 189 = some [.sc .nilFunc] := by kernel_rfl
theorem sz190 : szOf Tryz.prog 190 = some 1 := by kernel_rfl
theorem ag190 : aggOf Tryz.prog 190 = some false := by kernel_rfl
theorem ze190 : zeroA Tryz.prog 190 = some [.sc .nilFunc] := by kernel_rfl
theorem sz191 : szOf Tryz.prog 191 = some 1 := by kernel_rfl
theorem ag191 : aggOf Tryz.prog 191 = some false := by kernel_rfl
theorem ze191 : zeroA Tryz.prog 191 = some [.sc .nilFunc] := by kernel_rfl
theorem sz193 : szOf Tryz.prog 193 = some 1 := by kernel_rfl
theorem ag193 : aggOf Tryz.prog 193 = some false := by kernel_rfl
theorem ze193 : zeroA Tryz.prog 193 = some [.sc .nilFunc] := by kernel_rfl
theorem sz194 : szOf Tryz.prog 194 = some 1 := by kernel_rfl
theorem ag194 : aggOf Tryz.prog 194 = some false := by kernel_rfl
theorem ze194 : zeroA Tryz.prog 194 = some [.sc .nilFunc] := by kernel_rfl
theorem sz195 : szOf Tryz.prog 195 = some 1 := by kernel_rfl
theorem ag195 : aggOf Tryz.prog 195 = some false := by kernel_rfl
theorem ze195 : zeroA Tryz.prog 195 = some [.sc (.int .u64 0)] := by kernel_rfl
theorem sz196 : szOf Tryz.prog 196 = some 1 := by kernel_rfl
theorem ag196 : aggOf Tryz.prog 196 = some false := by kernel_rfl
theorem ze196 : zeroA Tryz.prog 196 = some [.sc .nilFunc] := by kernel_rfl
theorem sz197 : szOf Tryz.prog 197 = some 1 := by kernel_rfl
theorem ag197 : aggOf Tryz.prog 197 = some false := by kernel_rfl
theorem ze197 : zeroA Tryz.prog 197 = some [.sc .nilFunc] := by kernel_rfl
theorem sz198 : szOf Tryz.prog 198 = some 1 := by kernel_rfl
theorem ag198 : aggOf Tryz.prog 198 = some false := by kernel_rfl
theorem ze198 : zeroA Tryz.prog 198 = some [.sc .nilFunc] := by kernel_rfl
theorem sz199 : szOf Tryz.prog 199 = some 1 := by kernel_rfl
theorem ag199 : aggOf Tryz.prog 199 = some false := by kernel_rfl
theorem ze199 : zeroA Tryz.prog 199 = some [.sc .nilFunc] := by kernel_rfl
theorem sz200 : szOf Tryz.prog 200 = some 1 := by kernel_rfl
theorem ag200 : aggOf Tryz.prog 200 = some false := by kernel_rfl
theorem ze200 : zeroA Tryz.prog 200 = some [.sc .nilFunc] := by kernel_rfl
theorem sz201 : szOf Tryz.prog 201 = some 1 := by kernel_rfl
theorem ag201 : aggOf Tryz.prog 201 = some false := by kernel_rfl
theorem ze201 : zeroA Tryz.prog 201 = some [.sc (.pointer none)] := by kernel_rfl
theorem sz202 : szOf Tryz.prog 202 = some 1 := by kernel_rfl
theorem ag202 : aggOf Tryz.prog 202 = some false := by kernel_rfl
theorem ze202 : zeroA Tryz.prog 202 = some [.sc (.pointer none)] := by kernel_rfl
theorem sz203 : szOf Tryz.prog 203 = some 2 := by kernel_rfl
theorem ag203 : aggOf Tryz.prog 203 = some true := by kernel_rfl
theorem ze203 : zeroA Tryz.prog 203 = some [.sc (.pointer none), .nilS] := by kernel_rfl
theorem sz204 : szOf Tryz.prog 204 = some 2 := by kernel_rfl
theorem ag204 : aggOf Tryz.prog 204 = some true := by kernel_rfl
theorem ze204 : zeroA Tryz.prog 204 = some [.sc (.pointer none), .nilS] := by kernel_rfl
theorem sz205 : szOf Tryz.prog 205 = some 4 := by kernel_rfl
theorem ag205 : aggOf Tryz.prog 205 = some true := by kernel_rfl
theorem ze205 : zeroA Tryz.prog 205 = some [.sc (.pointer none), .nilS, .sc (.int .i64 0), .sc (.bool false)] := by kernel_rfl
theorem sz206 : szOf Tryz.prog 206 = some 4 := by kernel_rfl
theorem ag206 : aggOf Tryz.prog 206 = some true := by kernel_rfl
theorem ze206 : zeroA Tryz.prog 206 = some [.sc (.pointer none), .nilS, .sc (.int .i64 0), .sc (.bool false)] := by kernel_rfl
theorem sz207 : szOf Tryz.prog 207 = some 1 := by kernel_rfl
theorem ag207 : aggOf Tryz.prog 207 = some false := by kernel_rfl
theorem ze207 : zeroA Tryz.prog 207 = some [.sc .nilFunc] := by kernel_rfl
theorem sz208 : szOf Tryz.prog 208 = some 1 := by kernel_rfl
theorem ag208 : aggOf Tryz.prog 208 = some false := by kernel_rfl
theorem ze208 : zeroA Tryz.prog 208 = some [.sc (.pointer none)] := by kernel_rfl
theorem sz209 : szOf Tryz.prog 209 = some 2 := by kernel_rfl
theorem ag209 : aggOf Tryz.prog 209 = some true := by kernel_rfl
theorem ze209 : zeroA Tryz.prog 209 = some [.nilS, .sc (.int .i64 0)] := by kernel_rfl
theorem sz210 : szOf Tryz.prog 210 = some 2 := by kernel_rfl
theorem ag210 : aggOf Tryz.prog 210 = some true := by kernel_rfl
theorem ze210 : zeroA Tryz.prog 210 = some [.nilS, .sc (.int .i64 0)] := by kernel_rfl
theorem sz211 : szOf Tryz.prog 211 = some 1 := by kernel_rfl
theorem ag211 : aggOf Tryz.prog 211 = some false := by kernel_rfl
theorem ze211 : zeroA Tryz.prog 211 = some [.sc .nilFunc] := by kernel_rfl
theorem sz212 : szOf Tryz.prog 212 = some 2 := by kernel_rfl
theorem ag212 : aggOf Tryz.prog 212 = some true := by kernel_rfl
theorem ze212 : zeroA Tryz.prog 212 = some [.sc (.int .i64 0), .sc (.int .i64 0)] := by kernel_rfl
theorem sz213 : szOf Tryz.prog 213 = some 2 := by kernel_rfl
theorem ag213 : aggOf Tryz.prog 213 = some true := by kernel_rfl
theorem ze213 : zeroA Tryz.prog 213 = some [.sc (.int .i64 0), .sc (.int .i64 0)] := by kernel_rfl
theorem sz215 : szOf Tryz.prog 215 = some 1 := by kernel_rfl
theorem ag215 : aggOf Tryz.prog 215 = some false := by kernel_rfl
theorem ze215 : zeroA Tryz.prog 215 = some [.sc .nilFunc] := by kernel_rfl
theorem sz216 : szOf Tryz.prog 216 = some 1 := by kernel_rfl
theorem ag216 : aggOf Tryz.prog 216 = some false := by kernel_rfl
theorem ze216 : zeroA Tryz.prog 216 = some [.sc (.pointer none)] := by kernel_rfl
theorem sz217 : szOf Tryz.prog 217 = some 3 := by kernel_rfl
theorem ag217 : aggOf Tryz.prog 217 = some true := by kernel_rfl
theorem ze217 : zeroA Tryz.prog 217 = some [.nilS, .sc (.int .i64 0), .sc (.int .i64 0)] := by kernel_rfl
theorem sz218 : szOf Tryz.prog 218 = some 3 := by kernel_rfl
theorem ag218 : aggOf Tryz.prog 218 = some true := by kernel_rfl
theorem ze218 : zeroA Tryz.prog 218 = some [.nilS, .sc (.int .i64 0), .sc (.int .i64 0)] := by kernel_rfl
theorem sz219 : szOf Tryz.prog 219 = some 1 := by kernel_rfl
theorem ag219 : aggOf Tryz.prog 219 = some false := by kernel_rfl
theorem ze219 : zeroA Tryz.prog 219 = some [.sc .nilFunc] := by kernel_rfl
theorem sz220 : szOf Tryz.prog 220 = some 1 := by kernel_rfl
theorem ag220 : aggOf Tryz.prog 220 = some false := by kernel_rfl
theorem ze220 : zeroA Tryz.prog 220 = some [.sc .nilFunc] := by kernel_rfl
theorem sz221 : szOf Tryz.prog 221 = some 1 := by kernel_rfl
theorem ag221 : aggOf Tryz.prog 221 = some false := by kernel_rfl
theorem ze221 : zeroA Tryz.prog 221 = some [.sc .nilFunc] := by kernel_rfl
theorem sz222 : szOf Tryz.prog 222 = some 1 := by kernel_rfl
theorem ag222 : aggOf Tryz.prog 222 = some false := by kernel_rfl
theorem ze222 : zeroA Tryz.prog 222 = some [.sc .nilFunc] := by kernel_rfl
theorem sz224 : szOf Tryz.prog 224 = some 1 := by kernel_rfl
theorem ag224 : aggOf Tryz.prog 224 = some false := by kernel_rfl
theorem ze224 : zeroA Tryz.prog 224 = some [.sc .nilFunc] := by kernel_rfl
theorem sz225 : szOf Tryz.prog 225 = some 1 := by kernel_rfl
theorem ag225 : aggOf Tryz.prog 225 = some false := by kernel_rfl
theorem ze225 : zeroA Tryz.prog 225 = some [.sc .nilFunc] := by kernel_rfl
theorem sz226 : szOf Tryz.prog 226 = some 1 := by kernel_rfl
theorem ag226 : aggOf Tryz.prog 226 = some false := by kernel_rfl
theorem ze226 : zeroA Tryz.prog 226 = some [.sc .nilFunc] := by kernel_rfl
theorem sz227 : szOf Tryz.prog 227 = some 1 := by kernel_rfl
theorem ag227 : aggOf Tryz.prog 227 = some false := by kernel_rfl
theorem ze227 : zeroA Tryz.prog 227 = some [.sc .nilFunc] := by kernel_rfl
theorem sz228 : szOf Tryz.prog 228 = some 1 := by kernel_rfl
theorem ag228 : aggOf Tryz.prog 228 = some false := by kernel_rfl
theorem ze228 : zeroA Tryz.prog 228 = some [.sc .nilFunc] := by kernel_rfl
theorem sz229 : szOf Tryz.prog 229 = some 1 := by kernel_rfl
theorem ag229 : aggOf Tryz.prog 229 = some false := by kernel_rfl
theorem ze229 : zeroA Tryz.prog 229 = some [.sc .nilFunc] := by kernel_rfl
theorem sz231 : szOf Tryz.prog 231 = some 1 := by kernel_rfl
theorem ag231 : aggOf Tryz.prog 231 = some false := by kernel_rfl
theorem ze231 : zeroA Tryz.prog 231 = some [.sc .nilFunc] := by kernel_rfl
theorem sz232 : szOf Tryz.prog 232 = some 1 := by kernel_rfl
theorem ag232 : aggOf Tryz.prog 232 = some false := by kernel_rfl
theorem ze232 : zeroA Tryz.prog 232 = some [.sc .nilFunc] := by kernel_rfl
theorem sz233 : szOf Tryz.prog 233 = some 1 := by kernel_rfl
theorem ag233 : aggOf Tryz.prog 233 = some false := by kernel_rfl
theorem ze233 : zeroA Tryz.prog 233 = some [.sc .nilFunc] := by kernel_rfl
theorem sz234 : szOf Tryz.prog 234 = some 1 := by kernel_rfl
theorem ag234 : aggOf Tryz.prog 234 = some false := by kernel_rfl
theorem ze234 : zeroA Tryz.prog 234 = some [.sc .nilFunc] := by kernel_rfl
theorem sz235 : szOf Tryz.prog 235 = some 1 := by kernel_rfl
theorem ag235 : aggOf Tryz.prog 235 = some false := by kernel_rfl
theorem ze235 : zeroA Tryz.prog 235 = some [.sc .nilFunc] := by kernel_rfl
theorem sz239 : szOf Tryz.prog 239 = some 1 := by kernel_rfl
theorem ag239 : aggOf Tryz.prog 239 = some false := by kernel_rfl
theorem ze239 : zeroA Tryz.prog 239 = some [.sc .nilFunc] := by kernel_rfl
theorem sz240 : szOf Tryz.prog 240 = some 1 := by kernel_rfl
theorem ag240 : aggOf Tryz.prog 240 = some false := by kernel_rfl
theorem ze240 : zeroA Tryz.prog 240 = some [.sc .nilFunc] := by kernel_rfl
theorem sz241 : szOf Tryz.prog 241 = some 1 := by kernel_rfl
theorem ag241 : aggOf Tryz.prog 241 = some false := by kernel_rfl
theorem ze241 : zeroA Tryz.prog 241 = some [.sc (.pointer none)] := by kernel_rfl
theorem sz242 : szOf Tryz.prog 242 = some 1 := by kernel_rfl
theorem ag242 : aggOf Tryz.prog 242 = some false := by kernel_rfl
theorem ze242 : zeroA Tryz.prog 242 = some [.sc .nilFunc] := by kernel_rfl
theorem sz244 : szOf Tryz.prog 244 = some 1 := by kernel_rfl
theorem ag244 : aggOf Tryz.prog 244 = some false := by kernel_rfl
theorem ze244 : zeroA Tryz.prog 244 = some [.sc .nilFunc] := by kernel_rfl
theorem sz245 : szOf Tryz.prog 245 = some 1 := by kernel_rfl
theorem ag245 : aggOf Tryz.prog 245 = some false := by kernel_rfl
theorem ze245 : zeroA Tryz.prog 245 = some [.sc .nilFunc] := by kernel_rfl
theorem sz246 : szOf Tryz.prog 246 = some 1 := by kernel_rfl
theorem ag246 : aggOf Tryz.prog 246 = some false := by kernel_rfl
theorem ze246 : zeroA Tryz.prog 246 = some [.sc .nilFunc] := by kernel_rfl
theorem sz247 : szOf Tryz.prog 247 = some 1 := by kernel_rfl
theorem ag247 : aggOf Tryz.prog 247 = some false := by kernel_rfl
theorem ze247 : zeroA Tryz.prog 247 = some [.sc .nilFunc] := by kernel_rfl
theorem sz249 : szOf Tryz.prog 249 = some 1 := by kernel_rfl
theorem ag249 : aggOf Tryz.prog 249 = some false := by kernel_rfl
theorem ze249 : zeroA Tryz.prog 249 = some [.sc .nilFunc] := by kernel_rfl
theorem sz250 : szOf Tryz.prog 250 = some 1 := by kernel_rfl
theorem ag250 : aggOf Tryz.prog 250 = some false := by kernel_rfl
theorem ze250 : zeroA Tryz.prog 250 = some [.sc .nilFunc] := by kernel_rfl
theorem sz251 : szOf Tryz.prog 251 = some 1 := by kernel_rfl
theorem ag251 : aggOf Tryz.prog 251 = some false := by kernel_rfl
theorem ze251 : zeroA Tryz.prog 251 = some [.sc .nilFunc] := by kernel_rfl
theorem sz252 : szOf Tryz.prog 252 = some 1 := by kernel_rfl
theorem ag252 : aggOf Tryz.prog 252 = some false := by kernel_rfl
theorem ze252 : zeroA Tryz.prog 252 = some [.sc .nilFunc] := by kernel_rfl
theorem sz253 : szOf Tryz.prog 253 = some 1 := by kernel_rfl
theorem ag253 : aggOf Tryz.prog 253 = some false := by kernel_rfl
theorem ze253 : zeroA Tryz.prog 253 = some [.sc .nilFunc] := by kernel_rfl
theorem sz254 : szOf Tryz.prog 254 = some 1 := by kernel_rfl
theorem ag254 : aggOf Tryz.prog 254 = some false := by kernel_rfl
theorem ze254 : zeroA Tryz.prog 254 = some [.sc .nilFunc] := by kernel_rfl
theorem sz255 : szOf Tryz.prog 255 = some 1 := by kernel_rfl
theorem ag255 : aggOf Tryz.prog 255 = some false := by kernel_rfl
theorem ze255 : zeroA Tryz.prog 255 = some [.sc .nilFunc] := by kernel_rfl
theorem sz256 : szOf Tryz.prog 256 = some 1 := by kernel_rfl
theorem ag256 : aggOf Tryz.prog 256 = some false := by kernel_rfl
theorem ze256 : zeroA Tryz.prog 256 = some [.sc .nilFunc] := by kernel_rfl
theorem sz257 : szOf Tryz.prog 257 = some 1 := by kernel_rfl
theorem ag257 : aggOf Tryz.prog 257 = some false := by kernel_rfl
theorem ze257 : zeroA Tryz.prog 257 = some [.sc .nilFunc] := by kernel_rfl
end Go.Proofs.Bv
namespace Go.Proofs.Bv
open Go
theorem sz261 : szOf Tryz.prog 261 = some 1 := by kernel_rfl
theorem ag261 : aggOf Tryz.prog 261 = some false := by kernel_rfl
theorem ze261 : zeroA Tryz.prog 261 = some [.sc .nilFunc] := by kernel_rfl
theorem sz262 : szOf Tryz.prog 262 = some 1 := by kernel_rfl
theorem ag262 : aggOf Tryz.prog 262 = some false := by kernel_rfl
theorem ze262 : zeroA Tryz.prog 262 = some [.sc .nilFunc] := by kernel_rfl
theorem sz263 : szOf Tryz.prog 263 = some 1 := by kernel_rfl
theorem ag263 : aggOf Tryz.prog 263 = some false := by kernel_rfl
theorem ze263 : zeroA Tryz.prog 263 = some [.sc .nilFunc] := by kernel_rfl
theorem sz264 : szOf Tryz.prog 264 = some 1 := by kernel_rfl
theorem ag264 : aggOf Tryz.prog 264 = some false := by kernel_rfl
theorem ze264 : zeroA Tryz.prog 264 = some [.sc .nilFunc] := by kernel_rfl
theorem sz265 : szOf Tryz.prog 265 = some 1 := by kernel_rfl
theorem ag265 : aggOf Tryz.prog 265 = some false := by kernel_rfl
theorem ze265 : zeroA Tryz.prog 265 = some [.sc .nilFunc] := by kernel_rfl
theorem sz266 : szOf Tryz.prog 266 = some 1 := by kernel_rfl
theorem ag266 : aggOf Tryz.prog 266 = some false := by kernel_rfl
theorem ze266 : zeroA Tryz.prog 266 = some [.sc .nilFunc] := by kernel_rfl
theorem sz268 : szOf Tryz.prog 268 = some 1 := by kernel_rfl
theorem ag268 : aggOf Tryz.prog 268 = some false := by kernel_rfl
theorem ze268 : zeroA Tryz.prog 268 = some [.sc .nilFunc] := by kernel_rfl
theorem sz270 : szOf Tryz.prog 270 = some 1 := by kernel_rfl
theorem ag270 : aggOf Tryz.prog 270 = some false := by kernel_rfl
theorem ze270 : zeroA Tryz.prog 270 = some [.sc .nilFunc] := by kernel_rfl
theorem sz271 : szOf Tryz.prog 271 = some 1 := by kernel_rfl
theorem ag271 : aggOf Tryz.prog 271 = some false := by kernel_rfl
theorem ze271 : zeroA Tryz.prog 271 = some [.sc .nilFunc] := by kernel_rfl
theorem sz272 : szOf Tryz.prog 272 = some 1 := by kernel_rfl
theorem ag272 : aggOf Tryz.prog 272 = some false := by kernel_rfl
theorem ze272 : zeroA Tryz.prog 272 = some [.sc .nilFunc] := by kernel_rfl
theorem sz273 : szOf Tryz.prog 273 = some 1 := by kernel_rfl
theorem ag273 : aggOf Tryz.prog 273 = some false := by kernel_rfl
theorem ze273 : zeroA Tryz.prog 273 = some [.sc .nilFunc] := by kernel_rfl
theorem sz274 : szOf Tryz.prog 274 = some 1 := by kernel_rfl
theorem ag274 : aggOf Tryz.prog 274 = some false := by kernel_rfl
theorem ze274 : zeroA Tryz.prog 274 = some [.sc .nilFunc] := by kernel_rfl
theorem sz275 : szOf Tryz.prog 275 = some 1 := by kernel_rfl
theorem ag275 : aggOf Tryz.prog 275 = some false := by kernel_rfl
theorem ze275 : zeroA Tryz.prog 275 = some [.sc .nilFunc] := by kernel_rfl
theorem sz277 : szOf Tryz.prog 277 = some 2 := by kernel_rfl
theorem ag277 : aggOf Tryz.prog 277 = some true := by kernel_rfl
theorem ze277 : zeroA Tryz.prog 277 = some [.sc (.int .u8 0), .sc (.int .u8 0)] := by kernel_rfl
theorem sz278 : szOf Tryz.prog 278 = some 2 := by kernel_rfl
theorem ag278 : aggOf Tryz.prog 278 = some true := by kernel_rfl
theorem ze278 : zeroA Tryz.prog 278 = some [.sc (.int .u8 0), .sc (.int .u8 0)] := by kernel_rfl
theorem sz279 : szOf Tryz.prog 279 = some 32 := by kernel_rfl
theorem ag279 : aggOf Tryz.prog 279 = some true := by kernel_rfl
theorem ze279 : zeroA Tryz.prog 279 = some [.sc (.int .u8 0), .sc (.int .u8 0), .sc (.int .u8 0), .sc (.int .u8 0), .sc (.int .u8 0), .sc (.int .u8 0), .sc (.int .u8 0), .sc (.int .u8 0), .sc (.int .u8 0), .sc (.int .u8 0), .sc (.int .u8 0), .sc (.int .u8 0), .sc (.int .u8 0), .sc (.int .u8 0), .sc (.int .u8 0), .sc (.int .u8 0), .sc (.int .u8 0), .sc (.int .u8 0), .sc (.int .u8 0), .sc (.int .u8 0), .sc (.int .u8 0), .sc (.int .u8 0), .sc (.int .u8 0), .sc (.int .u8 0), .sc (.int .u8 0), .sc (.int .u8 0), .sc (.int .u8 0), .sc (.int .u8 0), .sc (.int .u8 0), .sc (.int .u8 0), .sc (.int .u8 0), .sc (.int .u8 0)] := by kernel_rfl
theorem sz280 : szOf Tryz.prog 280 = some 1 := by kernel_rfl
theorem ag280 : aggOf Tryz.prog 280 = some false := by kernel_rfl
theorem ze280 : zeroA Tryz.prog 280 = some [.sc .nilFunc] := by kernel_rfl
theorem sz281 : szOf Tryz.prog 281 = some 1 := by kernel_rfl
theorem ag281 : aggOf Tryz.prog 281 = some false := by kernel_rfl
theorem ze281 : zeroA Tryz.prog 281 = some [.sc .nilFunc] := by kernel_rfl
theorem sz282 : szOf Tryz.prog 282 = some 1 := by kernel_rfl
theorem ag282 : aggOf Tryz.prog 282 = some false := by kernel_rfl
theorem ze282 : zeroA Tryz.prog 282 = some [.nilS] := by kernel_rfl
theorem sz283 : szOf Tryz.prog 283 = some 1 := by kernel_rfl
theorem ag283 : aggOf Tryz.prog 283 = some false := by kernel_rfl
theorem ze283 : zeroA Tryz.prog 283 = some [.sc .nilFunc] := by kernel_rfl
theorem sz284 : szOf Tryz.prog 284 = some 1 := by kernel_rfl
theorem ag284 : aggOf Tryz.prog 284 = some false := by kernel_rfl
theorem ze284 : zeroA Tryz.prog 284 = some [.sc .nilFunc] := by kernel_rfl
theorem sz285 : szOf Tryz.prog 285 = some 1 := by kernel_rfl
theorem ag285 : aggOf Tryz.prog 285 = some false := by kernel_rfl
theorem ze285 : zeroA Tryz.prog 285 = some [.sc .nilFunc] := by kernel_rfl
theorem sz287 : szOf Tryz.prog 287 = some 1 := by kernel_rfl
theorem ag287 : aggOf Tryz.prog 287 = some false := by kernel_rfl
theorem ze287 : zeroA Tryz.prog 287 = some [.sc .nilFunc] := by kernel_rfl
theorem sz288 : szOf Tryz.prog 288 = some 1 := by kernel_rfl
theorem ag288 : aggOf Tryz.prog 288 = some false := by kernel_rfl
theorem ze288 : zeroA Tryz.prog 288 = some [.sc .nilFunc] := by kernel_rfl
theorem sz289 : szOf Tryz.prog 289 = some 1 := by kernel_rfl
theorem ag289 : aggOf Tryz.prog 289 = some false := by kernel_rfl
theorem ze289 : zeroA Tryz.prog 289 = some [.sc .nilFunc] := by kernel_rfl
theorem sz290 : szOf Tryz.prog 290 = some 1 := by kernel_rfl
theorem ag290 : aggOf Tryz.prog 290 = some false := by kernel_rfl
theorem ze290 : zeroA Tryz.prog 290 = some [.sc .nilFunc] := by kernel_rfl
theorem sz291 : szOf Tryz.prog 291 = some 1 := by kernel_rfl
theorem ag291 : aggOf Tryz.prog 291 = some false := by kernel_rfl
theorem ze291 : zeroA Tryz.prog 291 = some [.sc (.pointer none)] := by kernel_rfl
theorem sz292 : szOf Tryz.prog 292 = some 1 := by kernel_rfl
theorem ag292 : aggOf Tryz.prog 292 = some false := by kernel_rfl
theorem ze292 : zeroA Tryz.prog 292 = some [.sc .nilIface] := by kernel_rfl
theorem sz293 : szOf Tryz.prog 293 = some 1 := by kernel_rfl
theorem ag293 : aggOf Tryz.prog 293 = some false := by kernel_rfl
theorem ze293 : zeroA Tryz.prog 293 = some [.sc .nilIface] := by kernel_rfl
theorem sz295 : szOf Tryz.prog 295 = some 1 := by kernel_rfl
theorem ag295 : aggOf Tryz.prog 295 = some false := by kernel_rfl
theorem ze295 : zeroA Tryz.prog 295 = some [.sc .nilFunc] := by kernel_rfl
theorem sz296 : szOf Tryz.prog 296 = some 1 := by kernel_rfl
theorem ag296 : aggOf Tryz.prog 296 = some false := by kernel_rfl
theorem ze296 : zeroA Tryz.prog 296 = some [.sc .nilFunc] := by kernel_rfl
theorem sz297 : szOf Tryz.prog 297 = some 1 := by kernel_rfl
theorem ag297 : aggOf Tryz.prog 297 = some false := by kernel_rfl
theorem ze297 : zeroA Tryz.prog 297 = some [.sc .nilFunc] := by kernel_rfl
theorem sz298 : szOf Tryz.prog 298 = some 1 := by kernel_rfl
theorem ag298 : aggOf Tryz.prog 298 = some false := by kernel_rfl
theorem ze298 : zeroA Tryz.prog 298 = some [.sc .nilFunc] := by kernel_rfl
theorem sz299 : szOf Tryz.prog 299 = some 1 := by kernel_rfl
theorem ag299 : aggOf Tryz.prog 299 = some false := by kernel_rfl
theorem ze299 : zeroA Tryz.prog 299 = some [.sc .nilFunc] := by kernel_rfl
theorem sz300 : szOf Tryz.prog 300 = some 1 := by kernel_rfl
theorem ag300 : aggOf Tryz.prog 300 = some false := by kernel_rfl
theorem ze300 : zeroA Tryz.prog 300 = some [.sc .nilFunc] := by kernel_rfl
theorem sz301 : szOf Tryz.prog 301 = some 1 := by kernel_rfl
theorem ag301 : aggOf Tryz.prog 301 = some false := by kernel_rfl
theorem ze301 : zeroA Tryz.prog 301 = some [.sc .nilFunc] := by kernel_rfl
theorem sz302 : szOf Tryz.prog 302 = some 1 := by kernel_rfl
theorem ag302 : aggOf Tryz.prog 302 = some false := by kernel_rfl
theorem ze302 : zeroA Tryz.prog 302 = some [.sc .nilFunc] := by kernel_rfl
theorem sz303 : szOf Tryz.prog 303 = some 1 := by kernel_rfl
theorem ag303 : aggOf Tryz.prog 303 = some false := by kernel_rfl
theorem ze303 : zeroA Tryz.prog 303 = some [.sc .nilFunc] := by kernel_rfl
theorem sz304 : szOf Tryz.prog 304 = some 1 := by kernel_rfl
theorem ag304 : aggOf Tryz.prog 304 = some false := by kernel_rfl
theorem ze304 : zeroA Tryz.prog 304 = some [.sc .nilFunc] := by kernel_rfl
theorem sz305 : szOf Tryz.prog 305 = some 1 := by kernel_rfl
theorem ag305 : aggOf Tryz.prog 305 = some false := by kernel_rfl
theorem ze305 : zeroA Tryz.prog 305 = some [.sc .nilFunc] := by kernel_rfl
theorem sz306 : szOf Tryz.prog 306 = some 1 := by kernel_rfl
theorem ag306 : aggOf Tryz.prog 306 = some false := by kernel_rfl
theorem ze306 : zeroA Tryz.prog 306 = some [.sc .nilFunc] := by kernel_rfl
theorem sz307 : szOf Tryz.prog 307 = some 1 := by kernel_rfl
theorem ag307 : aggOf Tryz.prog 307 = some false := by kernel_rfl
theorem ze307 : zeroA Tryz.prog 307 = some [.sc .nilFunc] := by kernel_rfl
theorem sz308 : szOf Tryz.prog 308 = some 1 := by kernel_rfl
theorem ag308 : aggOf Tryz.prog 308 = some false := by kernel_rfl
theorem ze308 : zeroA Tryz.prog 308 = some [.sc .nilFunc] := by kernel_rfl
theorem sz309 : szOf Tryz.prog 309 = some 1 := by kernel_rfl
theorem ag309 : aggOf Tryz.prog 309 = some false := by kernel_rfl
theorem ze309 : zeroA Tryz.prog 309 = some [.sc .nilFunc] := by kernel_rfl
theorem sz310 : szOf Tryz.prog 310 = some 1 := by kernel_rfl
theorem ag310 : aggOf Tryz.prog 310 = some false := by kernel_rfl
theorem ze310 : zeroA Tryz.prog 310 = some [.sc .nilFunc] := by kernel_rfl
theorem sz311 : szOf Tryz.prog 311 = some 1 := by kernel_rfl
theorem ag311 : aggOf Tryz.prog 311 = some false := by kernel_rfl
theorem ze311 : zeroA Tryz.prog 311 = some [.sc .nilFunc] := by kernel_rfl
theorem sz312 : szOf Tryz.prog 312 = some 1 := by kernel_rfl
theorem ag312 : aggOf Tryz.prog 312 = some false := by kernel_rfl
theorem ze312 : zeroA Tryz.prog 312 = some [.sc .nilFunc] := by kernel_rfl
theorem sz313 : szOf Tryz.prog 313 = some 1 := by kernel_rfl
theorem ag313 : aggOf Tryz.prog 313 = some false := by kernel_rfl
theorem ze313 : zeroA Tryz.prog 313 = some [.sc .nilFunc] := by kernel_rfl
theorem sz314 : szOf Tryz.prog 314 = some 1 := by kernel_rfl
theorem ag314 : aggOf Tryz.prog 314 = some false := by kernel_rfl
theorem ze314 : zeroA Tryz.prog 314 = some [.sc .nilFunc] := by kernel_rfl
theorem sz315 : szOf Tryz.prog 315 = some 1 := by kernel_rfl
theorem ag315 : aggOf Tryz.prog 315 = some false := by kernel_rfl
theorem ze315 : zeroA Tryz.prog 315 = some [.sc .nilFunc] := by kernel_rfl
theorem sz316 : szOf Tryz.prog 316 = some 1 := by kernel_rfl
theorem ag316 : aggOf Tryz.prog 316 = some false := by kernel_rfl
theorem ze316 : zeroA Tryz.prog 316 = some [.sc .nilFunc] := by kernel_rfl
theorem sz318 : szOf Tryz.prog 318 = some 1 := by kernel_rfl
theorem ag318 : aggOf Tryz.prog 318 = some false := by kernel_rfl
theorem ze318 : zeroA Tryz.prog 318 = some [.sc .nilFunc] := by kernel_rfl
theorem sz320 : szOf Tryz.prog 320 = some 1 := by kernel_rfl
theorem ag320 : aggOf Tryz.prog 320 = some false := by kernel_rfl
theorem ze320 : zeroA Tryz.prog 320 = some [.sc .nilFunc] := by kernel_rfl
theorem sz321 : szOf Tryz.prog 321 = some 1 := by kernel_rfl
theorem ag321 : aggOf Tryz.prog 321 = some false := by kernel_rfl
theorem ze321 : zeroA Tryz.prog 321 = some [.sc .nilFunc] := by kernel_rfl
theorem sz322 : szOf Tryz.prog 322 = some 1 := by kernel_rfl
theorem ag322 : aggOf Tryz.prog 322 = some false := by kernel_rfl
theorem ze322 : zeroA Tryz.prog 322 = some [.sc .nilFunc] := by kernel_rfl
theorem sz323 : szOf Tryz.prog 323 = some 1 := by kernel_rfl
theorem ag323 : aggOf Tryz.prog 323 = some false := by kernel_rfl
theorem ze323 : zeroA Tryz.prog 323 = some [.sc .nilFunc] := by kernel_rfl
theorem sz324 : szOf Tryz.prog 324 = some 1 := by kernel_rfl
theorem ag324 : aggOf Tryz.prog 324 = some false := by kernel_rfl
theorem ze324 : zeroA Tryz.prog 324 = some [.sc .nilFunc] := by kernel_rfl
theorem sz326 : szOf Tryz.prog 326 = some 1 := by kernel_rfl
theorem ag326 : aggOf Tryz.prog 326 = some false := by kernel_rfl
theorem ze326 : zeroA Tryz.prog 326 = some [.sc .nilFunc] := by kernel_rfl
theorem sz327 : szOf Tryz.prog 327 = some 1 := by kernel_rfl
theorem ag327 : aggOf Tryz.prog 327 = some false := by kernel_rfl
theorem ze327 : zeroA Tryz.prog 327 = some [.sc .nilFunc] := by kernel_rfl
theorem sz328 : szOf Tryz.prog 328 = some 1 := by kernel_rfl
theorem ag328 : aggOf Tryz.prog 328 = some false := by kernel_rfl
theorem ze328 : zeroA Tryz.prog 328 = some [.sc (.pointer none)] := by kernel_rfl
theorem sz329 : szOf Tryz.prog 329 = some 4 := by kernel_rfl
theorem ag329 : aggOf Tryz.prog 329 = some true := by kernel_rfl
theorem ze329 : zeroA Tryz.prog 329 = some [.sc (.pointer none), .sc (.pointer none), .sc (.pointer none), .sc (.string ByteArray.empty)] := by kernel_rfl
theorem sz330 : szOf Tryz.prog 330 = some 4 := by kernel_rfl
theorem ag330 : aggOf Tryz.prog 330 = some true := by kernel_rfl
theorem ze330 : zeroA Tryz.prog 330 = some [.sc (.pointer none), .sc (.pointer none), .sc (.pointer none), .sc (.string ByteArray.empty)] := by kernel_rfl
theorem sz334 : szOf Tryz.prog 334 = some 1 := by kernel_rfl
theorem ag334 : aggOf Tryz.prog 334 = some false := by kernel_rfl
theorem ze334 : zeroA Tryz.prog 334 = some [.sc (.int .u8 0)] := by kernel_rfl
theorem sz335 : szOf Tryz.prog 335 = some 1 := by kernel_rfl
theorem ag335 : aggOf Tryz.prog 335 = some false := by kernel_rfl
theorem ze335 : zeroA Tryz.prog 335 = some [.sc (.int .u8 0)] := by kernel_rfl
theorem sz336 : szOf Tryz.prog 336 = some 1 := by kernel_rfl
theorem ag336 : aggOf Tryz.prog 336 = some false := by kernel_rfl
theorem ze336 : zeroA Tryz.prog 336 = some [.sc .nilFunc] := by kernel_rfl
theorem sz337 : szOf Tryz.prog 337 = some 1 := by kernel_rfl
theorem ag337 : aggOf Tryz.prog 337 = some false := by kernel_rfl
theorem ze337 : zeroA Tryz.prog 337 = some [.sc (.int .i32 0)] := by kernel_rfl
theorem sz338 : szOf Tryz.prog 338 = some 1 := by kernel_rfl
theorem ag338 : aggOf Tryz.prog 338 = some false := by kernel_rfl
theorem ze338 : zeroA Tryz.prog 338 = some [.sc (.int .i32 0)] := by kernel_rfl
theorem sz339 : szOf Tryz.prog 339 = some 11 := by kernel_rfl
theorem ag339 : aggOf Tryz.prog 339 = some true := by kernel_rfl
theorem ze339 : zeroA Tryz.prog 339 = some [.sc (.int .u64 0), .sc (.int .u64 0), .sc (.int .u32 0), .sc (.int .u8 0), .sc (.int .u8 0), .sc (.int .u8 0), .sc (.int .u8 0), .sc .nilFunc, .sc (.pointer none), .sc (.int .i32 0), .sc (.int .i32 0)] := by kernel_rfl
theorem sz340 : szOf Tryz.prog 340 = some 11 := by kernel_rfl
theorem ag340 : aggOf Tryz.prog 340 = some true := by kernel_rfl
theorem ze340 : zeroA Tryz.prog 340 = some [.sc (.int .u64 0), .sc (.int .u64 0), .sc (.int .u32 0), .sc (.int .u8 0), .sc (.int .u8 0), .sc (.int .u8 0), .sc (.int .u8 0), .sc .nilFunc, .sc (.pointer none), .sc (.int .i32 0), .sc (.int .i32 0)] := by kernel_rfl
theorem sz341 : szOf Tryz.prog 341 = some 1 := by kernel_rfl
theorem ag341 : aggOf Tryz.prog 341 = some true := by kernel_rfl
theorem ze341 : zeroA Tryz.prog 341 = some [.sc (.string ByteArray.empty)] := by kernel_rfl
end Go.Proofs.Bv
namespace Go.Proofs.Bv
open Go
theorem iq3 : infoQ Tryz.prog 3 = some (1, 8, some 1) := by unfold infoQ; kernel_rfl
theorem iq5 : infoQ Tryz.prog 5 = some (1, 1, some 1) := by unfold infoQ; kernel_rfl
theorem iq9 : infoQ Tryz.prog 9 = some (1, 16, some 1) := by unfold infoQ; kernel_rfl
theorem iq24 : infoQ Tryz.prog 24 = some (3, 40, some 3) := by unfold infoQ; kernel_rfl
theorem iq28 : infoQ Tryz.prog 28 = some (7, 112, some 7) := by unfold infoQ; kernel_rfl
theorem iq30 : infoQ Tryz.prog 30 = some (1, 8, some 1) := by unfold infoQ; kernel_rfl
theorem iq102 : infoQ Tryz.prog 102 = some (1, 4, some 1) := by unfold infoQ; kernel_rfl
attribute [go_sem] sz1 ag1 ze1 sz2 ag2 ze2 sz3 ag3 ze3 sz4 ag4 ze4
attribute [go_sem] sz5 ag5 ze5 sz6 ag6 ze6 sz7 ag7 ze7 sz8 ag8 ze8
attribute [go_sem] sz9 ag9 ze9 sz10 ag10 ze10 sz11 ag11 ze11 sz12 ag12 ze12
attribute [go_sem] sz13 ag13 ze13 sz14 ag14 ze14 sz15 ag15 ze15 sz16 ag16 ze16
attribute [go_sem] sz17 ag17 ze17 sz18 ag18 ze18 sz19 ag19 ze19 sz20 ag20 ze20
attribute [go_sem] sz21 ag21 ze21 sz22 ag22 ze22 sz23 ag23 ze23 sz24 ag24 ze24
attribute [go_sem] sz25 ag25 ze25 sz26 ag26 ze26 sz27 ag27 ze27 sz28 ag28 ze28
attribute [go_sem] sz29 ag29 ze29 sz30 ag30 ze30 sz32 ag32 ze32 sz33 ag33 ze33
attribute [go_sem] sz34 ag34 ze34 sz35 ag35 ze35 sz36 ag36 ze36 sz37 ag37 ze37
attribute [go_sem] sz39 ag39 ze39 sz40 ag40 ze40 sz41 ag41 ze41 sz42 ag42 ze42
attribute [go_sem] sz43 ag43 ze43 sz45 ag45 ze45 sz46 ag46 ze46 sz48 ag48 ze48
attribute [go_sem] sz50 ag50 ze50 sz52 ag52 ze52 sz53 ag53 ze53 sz54 ag54 ze54
attribute [go_sem] sz55 ag55 ze55 sz56 ag56 ze56 sz57 ag57 ze57 sz58 ag58 ze58
attribute [go_sem] sz59 ag59 ze59 sz61 ag61 ze61 sz63 ag63 ze63 sz64 ag64 ze64
attribute [go_sem] sz65 ag65 ze65 sz66 ag66 ze66 sz67 ag67 ze67 sz68 ag68 ze68
attribute [go_sem] sz69 ag69 ze69 sz70 ag70 ze70 sz72 ag72 ze72 sz73 ag73 ze73
attribute [go_sem] sz74 ag74 ze74 sz75 ag75 ze75 sz76 ag76 ze76 sz77 ag77 ze77
attribute [go_sem] sz78 ag78 ze78 sz80 ag80 ze80 sz81 ag81 ze81 sz83 ag83 ze83
attribute [go_sem] sz84 ag84 ze84 sz86 ag86 ze86 sz88 ag88 ze88 sz89 ag89 ze89
attribute [go_sem] sz90 ag90 ze90 sz91 ag91 ze91 sz92 ag92 ze92 sz93 ag93 ze93
attribute [go_sem] sz95 ag95 ze95 sz96 ag96 ze96 sz98 ag98 ze98 sz99 ag99 ze99
attribute [go_sem] sz100 ag100 ze100 sz101 ag101 ze101 sz102 ag102 ze102 sz103 ag103 ze103
attribute [go_sem] sz104 ag104 ze104 sz105 ag105 ze105 sz106 ag106 ze106 sz107 ag107 ze107
attribute [go_sem] sz108 ag108 ze108 sz109 ag109 ze109 sz110 ag110 ze110 sz111 ag111 ze111
attribute [go_sem] sz112 ag112 ze112 sz113 ag113 ze113 sz114 ag114 ze114 sz115 ag115 ze115
attribute [go_sem] sz116 ag116 ze116 sz117 ag117 ze117 sz118 ag118 ze118 sz119 ag119 ze119
attribute [go_sem] sz120 ag120 ze120 sz122 ag122 ze122 sz124 ag124 ze124 sz125 ag125 ze125
attribute [go_sem] sz127 ag127 ze127 sz128 ag128 ze128 sz129 ag129 ze129 sz130 ag130 ze130
attribute [go_sem] sz131 ag131 ze131 sz132 ag132 ze132 sz133 ag133 ze133 sz134 ag134 ze134
attribute [go_sem] sz135 ag135 ze135 sz136 ag136 ze136 sz137 ag137 ze137 sz138 ag138 ze138
attribute [go_sem] sz139 ag139 ze139 sz140 ag140 ze140 sz141 ag141 ze141 sz142 ag142 ze142
attribute [go_sem] sz143 ag143 ze143 sz144 ag144 ze144 sz145 ag145 ze145 sz147 ag147 ze147
attribute [go_sem] sz148 ag148 ze148 sz150 ag150 ze150 sz151 ag151 ze151 sz152 ag152 ze152
attribute [go_sem] sz153 ag153 ze153 sz154 ag154 ze154 sz155 ag155 ze155 sz157 ag157 ze157
attribute [go_sem] sz158 ag158 ze158 sz160 ag160 ze160 sz161 ag161 ze161 sz162 ag162 ze162
attribute [go_sem] sz163 ag163 ze163 sz164 ag164 ze164 sz165 ag165 ze165 sz166 ag166 ze166
attribute [go_sem] sz168 ag168 ze168 sz169 ag169 ze169 sz170 ag170 ze170 sz171 ag171 ze171
attribute [go_sem] sz172 ag172 ze172 sz173 ag173 ze173 sz174 ag174 ze174 sz175 ag175 ze175
attribute [go_sem] sz176 ag176 ze176 sz177 ag177 ze177 sz178 ag178 ze178 sz179 ag179 ze179
attribute [go_sem] sz180 ag180 ze180 sz181 ag181 ze181 sz182 ag182 ze182 sz183 ag183 ze183
attribute [go_sem] sz184 ag184 ze184 sz185 ag185 ze185 sz186 ag186 ze186 sz187 ag187 ze187
attribute [go_sem] sz188 ag188 ze188 sz189 ag189 ze189 sz190 ag190 ze190 sz191 ag191 ze191
attribute [go_sem] sz193 ag193 ze193 sz194 ag194 ze194 sz195 ag195 ze195 sz196 ag196 ze196
attribute [go_sem] sz197 ag197 ze197 sz198 ag198 ze198 sz199 ag199 ze199 sz200 ag200 ze200
attribute [go_sem] sz201 ag201 ze201 sz202 ag202 ze202 sz203 ag203 ze203 sz204 ag204 ze204
attribute [go_sem] sz205 ag205 ze205 sz206 ag206 ze206 sz207 ag207 ze207 sz208 ag208 ze208
attribute [go_sem] sz209 ag209 ze209 sz210 ag210 ze210 sz211 ag211 ze211 sz212 ag212 ze212
attribute [go_sem] sz213 ag213 ze213 sz215 ag215 ze215 sz216 ag216 ze216 sz217 ag217 ze217
attribute [go_sem] sz218 ag218 ze218 sz219 ag219 ze219 sz220 ag220 ze220 sz221 ag221 ze221
attribute [go_sem] sz222 ag222 ze222 sz224 ag224 ze224 sz225 ag225 ze225 sz226 ag226 ze226
attribute [go_sem] sz227 ag227 ze227 sz228 ag228 ze228 sz229 ag229 ze229 sz231 ag231 ze231
attribute [go_sem] sz232 ag232 ze232 sz233 ag233 ze233 sz234 ag234 ze234 sz235 ag235 ze235
attribute [go_sem] sz239 ag239 ze239 sz240 ag240 ze240 sz241 ag241 ze241 sz242 ag242 ze242
attribute [go_sem] sz244 ag244 ze244 sz245 ag245 ze245 sz246 ag246 ze246 sz247 ag247 ze247
attribute [go_sem] sz249 ag249 ze249 sz250 ag250 ze250 sz251 ag251 ze251 sz252 ag252 ze252
attribute [go_sem] sz253 ag253 ze253 sz254 ag254 ze254 sz255 ag255 ze255 sz256 ag256 ze256
attribute [go_sem] sz257 ag257 ze257 sz261 ag261 ze261 sz262 ag262 ze262 sz263 ag263 ze263
attribute [go_sem] sz264 ag264 ze264 sz265 ag265 ze265 sz266 ag266 ze266 sz268 ag268 ze268
attribute [go_sem] sz270 ag270 ze270 sz271 ag271 ze271 sz272 ag272 ze272 sz273 ag273 ze273
attribute [go_sem] sz274 ag274 ze274 sz275 ag275 ze275 sz277 ag277 ze277 sz278 ag278 ze278
attribute [go_sem] sz279 ag279 ze279 sz280 ag280 ze280 sz281 ag281 ze281 sz282 ag282 ze282
attribute [go_sem] sz283 ag283 ze283 sz284 ag284 ze284 sz285 ag285 ze285 sz287 ag287 ze287
attribute [go_sem] sz288 ag288 ze288 sz289 ag289 ze289 sz290 ag290 ze290 sz291 ag291 ze291
attribute [go_sem] sz292 ag292 ze292 sz293 ag293 ze293 sz295 ag295 ze295 sz296 ag296 ze296
attribute [go_sem] sz297 ag297 ze297 sz298 ag298 ze298 sz299 ag299 ze299 sz300 ag300 ze300
attribute [go_sem] sz301 ag301 ze301 sz302 ag302 ze302 sz303 ag303 ze303 sz304 ag304 ze304
attribute [go_sem] sz305 ag305 ze305 sz306 ag306 ze306 sz307 ag307 ze307 sz308 ag308 ze308
attribute [go_sem] sz309 ag309 ze309 sz310 ag310 ze310 sz311 ag311 ze311 sz312 ag312 ze312
attribute [go_sem] sz313 ag313 ze313 sz314 ag314 ze314 sz315 ag315 ze315 sz316 ag316 ze316
attribute [go_sem] sz318 ag318 ze318 sz320 ag320 ze320 sz321 ag321 ze321 sz322 ag322 ze322
attribute [go_sem] sz323 ag323 ze323 sz324 ag324 ze324 sz326 ag326 ze326 sz327 ag327 ze327
attribute [go_sem] sz328 ag328 ze328 sz329 ag329 ze329 sz330 ag330 ze330 sz334 ag334 ze334
attribute [go_sem] sz335 ag335 ze335 sz336 ag336 ze336 sz337 ag337 ze337 sz338 ag338 ze338
attribute [go_sem] sz339 ag339 ze339 sz340 ag340 ze340 sz341 ag341 ze341 Tryz.underlying1 Tryz.underlying2 Tryz.underlying3
attribute [go_sem] Tryz.underlying4 Tryz.underlying5 Tryz.underlying6 Tryz.underlying7 Tryz.underlying8 Tryz.underlying9 Tryz.underlying10 Tryz.underlying11 Tryz.underlying12 Tryz.underlying13 Tryz.underlying14 Tryz.underlying15
attribute [go_sem] Tryz.underlying16 Tryz.underlying17 Tryz.underlying18 Tryz.underlying19 Tryz.underlying20 Tryz.underlying21 Tryz.underlying22 Tryz.underlying23 Tryz.underlying24 Tryz.underlying25 Tryz.underlying26 Tryz.underlying27
attribute [go_sem] Tryz.underlying28 Tryz.underlying29 Tryz.underlying30 Tryz.underlying32 Tryz.underlying33 Tryz.underlying34 Tryz.underlying35 Tryz.underlying36 Tryz.underlying37 Tryz.underlying39 Tryz.underlying40 Tryz.underlying41
attribute [go_sem] Tryz.underlying42 Tryz.underlying43 Tryz.underlying45 Tryz.underlying46 Tryz.underlying48 Tryz.underlying50 Tryz.underlying52 Tryz.underlying53 Tryz.underlying54 Tryz.underlying55 Tryz.underlying56 Tryz.underlying57
attribute [go_sem] Tryz.underlying58 Tryz.underlying59 Tryz.underlying61 Tryz.underlying63 Tryz.underlying64 Tryz.underlying65 Tryz.underlying66 Tryz.underlying67 Tryz.underlying68 Tryz.underlying69 Tryz.underlying70 Tryz.underlying72
attribute [go_sem] Tryz.underlying73 Tryz.underlying74 Tryz.underlying75 Tryz.underlying76 Tryz.underlying77 Tryz.underlying78 Tryz.underlying80 Tryz.underlying81 Tryz.underlying83 Tryz.underlying84 Tryz.underlying86 Tryz.underlying88
attribute [go_sem] Tryz.underlying89 Tryz.underlying90 Tryz.underlying91 Tryz.underlying92 Tryz.underlying93 Tryz.underlying95 Tryz.underlying96 Tryz.underlying98 Tryz.underlying99 Tryz.underlying100 Tryz.underlying101 Tryz.underlying102
attribute [go_sem] Tryz.underlying103 Tryz.underlying104 Tryz.underlying105 Tryz.underlying106 Tryz.underlying107 Tryz.underlying108 Tryz.underlying109 Tryz.underlying110 Tryz.underlying111 Tryz.underlying112 Tryz.underlying113 Tryz.underlying114
attribute [go_sem] Tryz.underlying115 Tryz.underlying116 Tryz.underlying117 Tryz.underlying118 Tryz.underlying119 Tryz.underlying120 Tryz.underlying122 Tryz.underlying124 Tryz.underlying125 Tryz.underlying127 Tryz.underlying128 Tryz.underlying129
attribute [go_sem] Tryz.underlying130 Tryz.underlying131 Tryz.underlying132 Tryz.underlying133 Tryz.underlying134 Tryz.underlying135 Tryz.underlying136 Tryz.underlying137 Tryz.underlying138 Tryz.underlying139 Tryz.underlying140 Tryz.underlying141
attribute [go_sem] Tryz.underlying142 Tryz.underlying143 Tryz.underlying144 Tryz.underlying145 Tryz.underlying147 Tryz.underlying148 Tryz.underlying150 Tryz.underlying151 Tryz.underlying152 Tryz.underlying153 Tryz.underlying154 Tryz.underlying155
attribute [go_sem] Tryz.underlying157 Tryz.underlying158 Tryz.underlying160 Tryz.underlying161 Tryz.underlying162 Tryz.underlying163 Tryz.underlying164 Tryz.underlying165 Tryz.underlying166 Tryz.underlying168 Tryz.underlying169 Tryz.underlying170
attribute [go_sem] Tryz.underlying171 Tryz.underlying172 Tryz.underlying173 Tryz.underlying174 Tryz.underlying175 Tryz.underlying176 Tryz.underlying177 Tryz.underlying178 Tryz.underlying179 Tryz.underlying180 Tryz.underlying181 Tryz.underlying182
attribute [go_sem] Tryz.underlying183 Tryz.underlying184 Tryz.underlying185 Tryz.underlying186 Tryz.underlying187 Tryz.underlying188 Tryz.underlying189 Tryz.underlying190 Tryz.underlying191 Tryz.underlying193 Tryz.underlying194 Tryz.underlying195
attribute [go_sem] Tryz.underlying196 Tryz.underlying197 Tryz.underlying198 Tryz.underlying199 Tryz.underlying200 Tryz.underlying201 Tryz.underlying202 Tryz.underlying203 Tryz.underlying204 Tryz.underlying205 Tryz.underlying206 Tryz.underlying207
attribute [go_sem] Tryz.underlying208 Tryz.underlying209 Tryz.underlying210 Tryz.underlying211 Tryz.underlying212 Tryz.underlying213 Tryz.underlying215 Tryz.underlying216 Tryz.underlying217 Tryz.underlying218 Tryz.underlying219 Tryz.underlying220
attribute [go_sem] Tryz.underlying221 Tryz.underlying222 Tryz.underlying224 Tryz.underlying225 Tryz.underlying226 Tryz.underlying227 Tryz.underlying228 Tryz.underlying229 Tryz.underlying231 Tryz.underlying232 Tryz.underlying233 Tryz.underlying234
attribute [go_sem] Tryz.underlying235 Tryz.underlying239 Tryz.underlying240 Tryz.underlying241 Tryz.underlying242 Tryz.underlying244 Tryz.underlying245 Tryz.underlying246 Tryz.underlying247 Tryz.underlying249 Tryz.underlying250 Tryz.underlying251
attribute [go_sem] Tryz.underlying252 Tryz.underlying253 Tryz.underlying254 Tryz.underlying255 Tryz.underlying256 Tryz.underlying257 Tryz.underlying261 Tryz.underlying262 Tryz.underlying263 Tryz.underlying264 Tryz.underlying265 Tryz.underlying266
attribute [go_sem] Tryz.underlying268 Tryz.underlying270 Tryz.underlying271 Tryz.underlying272 Tryz.underlying273 Tryz.underlying274 Tryz.underlying275 Tryz.underlying277 Tryz.underlying278 Tryz.underlying279 Tryz.underlying280 Tryz.underlying281
attribute [go_sem] Tryz.underlying282 Tryz.underlying283 Tryz.underlying284 Tryz.underlying285 Tryz.underlying287 Tryz.underlying288 Tryz.underlying289 Tryz.underlying290 Tryz.underlying291 Tryz.underlying292 Tryz.underlying293 Tryz.underlying295
attribute [go_sem] Tryz.underlying296 Tryz.underlying297 Tryz.underlying298 Tryz.underlying299 Tryz.underlying300 Tryz.underlying301 Tryz.underlying302 Tryz.underlying303 Tryz.underlying304 Tryz.underlying305 Tryz.underlying306 Tryz.underlying307
attribute [go_sem] Tryz.underlying308 Tryz.underlying309 Tryz.underlying310 Tryz.underlying311 Tryz.underlying312 Tryz.underlying313 Tryz.underlying314 Tryz.underlying315 Tryz.underlying316 Tryz.underlying318 Tryz.underlying320 Tryz.underlying321
attribute [go_sem] Tryz.underlying322 Tryz.underlying323 Tryz.underlying324 Tryz.underlying326 Tryz.underlying327 Tryz.underlying328 Tryz.underlying329 Tryz.underlying330 Tryz.underlying334 Tryz.underlying335 Tryz.underlying336 Tryz.underlying337
attribute [go_sem] Tryz.underlying338 Tryz.underlying339 Tryz.underlying340 Tryz.underlying341 iq3 iq5 iq9 iq24 iq28 iq30 iq102 CfP
theorem u32s_pur : (l : List Int) → purs (u32s l) = true
  | [] => rfl
  | _ :: l => by simpa [u32s, purs, AV.pur] using u32s_pur l
theorem strs_pur : (l : List ByteArray) → purs (strs l) = true
  | [] => rfl
  | _ :: l => by simpa [strs, purs, AV.pur] using strs_pur l
theorem encs_is (l : List JV) : ((encs l).length = l.length * 7) = True := by simp [encs_len]
theorem u32s_is (l : List Int) : ((u32s l).length = l.length * 1) = True := by simp [u32s_len]
theorem strs_is (l : List ByteArray) : ((strs l).length = l.length * 1) = True := by simp [strs_len]
attribute [go_sem] enc encs_pur enc_pur u32s_pur strs_pur encs_is u32s_is strs_is
end Go.Proofs.Bv
namespace Go.Proofs.Bv
open Go
noncomputable def Cg (G : Nat → Option (List AV)) : Cfg := ⟨Tryz.prog, G, inlF, fun _ => none, fun _ => false⟩
theorem CgP {G : Nat → Option (List AV)} : (Cg G).P = Tryz.prog := rfl
theorem vb_n1 {P : Program} {t : TypeId} {xo yo : Operand} {cs : List AV} {k : Nat} : vbin P .eql t xo yo (.psl cs (k + 1)) .nilS = (P.underlying t).bind fun d => if nilDesc d (.psl cs (k + 1)) then some (.sc (.bool false)) else none := by
  simp only [vbin, toVal, vnil]
  cases P.underlying t with
  | none => rfl
  | some d => simp only [Option.bind_some]; cases h : nilDesc d (.psl cs (k + 1)) <;> rfl
theorem vb_n2 {P : Program} {t : TypeId} {xo yo : Operand} : vbin P .eql t xo yo .emp .nilS = (P.underlying t).bind fun d => if nilDesc d .emp then some (.sc (.bool false)) else none := by
  simp only [vbin, toVal, vnil]
  cases P.underlying t with
  | none => rfl
  | some d => simp only [Option.bind_some]; cases h : nilDesc d .emp <;> rfl
theorem vb_n3 {P : Program} {t : TypeId} {xo yo : Operand} : vbin P .eql t xo yo .nilS .nilS = (P.underlying t).bind fun d => if nilDesc d .nilS then some (.sc (.bool true)) else none := by
  simp only [vbin, toVal, vnil]
  cases P.underlying t with
  | none => rfl
  | some d => simp only [Option.bind_some]; cases h : nilDesc d .nilS <;> rfl
theorem HR_cfg {C C' : Cfg} {m : AMap} {Z : Nat → Prop} {h : Heap} {w : World} (hG : C.G = C'.G) (hr : HR C m Z h w) : HR C' m Z h w :=
  ⟨hr.cells, hr.loops, hr.inj, hr.zlt, fun g cs e => hr.glob g cs (by rw [hG]; exact e)⟩
theorem Step_cfg {C C' : Cfg} {m m' : AMap} {Z Z' : Nat → Prop} {h h' : Heap} {n n' : Nat} {w w' : World} (hG : C.G = C'.G) (s : Step C m Z h n w m' Z' h' n' w') : Step C' m Z h n w m' Z' h' n' w' :=
  ⟨HR_cfg hG s.hr, s.mext, s.mnew, s.zext, s.znew, s.nle, s.size, s.frame, s.dom, s.os, s.tape, s.output⟩
theorem nn (G : Nat → Option (List AV)) : NoNum (Cf G) := noNum_of (by show (Tryz.prog.funcs.all _) = true; kernel_rfl)
theorem nng (G : Nat → Option (List AV)) : NoNum (Cg G) := nn G
theorem mix : Tryz.prog.follows .mixedOrders = true := by kernel_rfl
theorem orcg (G : Nat → Option (List AV)) : OrcOk (Cg G) := by
  intro f g ars v h
  simp [Cg] at h
structure ClOk (G : Nat → Option (List AV)) (f : FuncId) : Prop where
  hn : ∃ k, (lv (Cg G) k).fc f [.nilS] noHeap 0 = some (.nilS, noHeap, 0)
  he : ∃ k h, (lv (Cg G) k).fc f [.emp] noHeap 0 = some (.osl 1 0 0, h, 2)
set_option maxRecDepth 100000 in
theorem clone_upon {G : Nat → Option (List AV)} {f : FuncId} (hc : ClOk G f) {cs : List AV} {len : Nat} (hi : 0 < len → inlF f = false) (hz : len = 0 → cs = []) (hp : 0 < len → purs cs = true ∧ Pc (Cg G) f [.psl cs len] (.psl cs len)) (Z : Nat → Prop) (w : World) (us : List Value)
    (hr : HR (Cf G) noMap Z noHeap w) (hus : RVl Z w [.psl cs len] noMap us) (r : Option Nat) (o : Oper) (a : Act) (next : Act → World → Prop) (Q : Exit → Act → World → Prop)
    (hn : ∀ u w1 m1 Z1 h1 n1, Step (Cf G) noMap Z noHeap 0 w m1 Z1 h1 n1 w1 → RV Z1 w1 (.psl cs len) noMap u → next (a.put o.dst u) w1) :
    o.uponIn (Fw r) 0 (Cf G).P a next Q ((callFunc f us.toArray).run (Cf G).P w) := by
  have hr' : HR (Cg G) noMap Z noHeap w := HR_cfg (C := Cf G) (C' := Cg G) rfl hr
  have hus0 := hus
  simp only [RVl] at hus
  obtain ⟨u, rest, rfl, hu, rfl⟩ := hus
  simp only [RV] at hu
  obtain ⟨ad, cap, rfl, hu⟩ := hu
  rcases Nat.eq_zero_or_pos len with rfl | hpos
  · have hcs := hz rfl
    subst hcs
    cases ad with
    | none =>
      have hcap : cap = 0 := by
        rcases hu with ⟨_, _, h⟩ | ⟨_, _, _, _, h, _⟩
        · exact h rfl
        · cases h
      subst hcap
      obtain ⟨k, hk⟩ := hc.hn
      refine upon_fc (C := Cg G) (lv_ok (nng G) (orcg G) mix k).1 hk (Nat.zero_le _) hr' (by simp only [RVl, RV]; exact ⟨_, _, rfl, rfl, rfl⟩) (fun _ _ _ => rfl) r o a next Q fun u w1 m1 Z1 s hu1 => ?_
      simp only [RV] at hu1
      exact hn u w1 m1 Z1 _ _ (Step_cfg (C := Cg G) (C' := Cf G) rfl s) (by simp only [RV]; exact ⟨none, 0, hu1, .inl ⟨trivial, trivial, fun _ => rfl⟩⟩)
    | some ad =>
      obtain ⟨k, h1, hk⟩ := hc.he
      refine upon_fc (C := Cg G) (lv_ok (nng G) (orcg G) mix k).1 hk (Nat.zero_le _) hr' (by simp only [RVl, RV]; exact ⟨_, _, rfl, ⟨ad, cap, rfl⟩, rfl⟩) (fun _ _ _ => rfl) r o a next Q fun u w1 m1 Z1 s hu1 => ?_
      simp only [RV] at hu1
      obtain ⟨mb, c1, _, rfl, _⟩ := hu1
      exact hn _ w1 m1 Z1 _ _ (Step_cfg (C := Cg G) (C' := Cf G) rfl s) (by simp only [RV]; exact ⟨_, c1, rfl, .inl ⟨trivial, trivial, fun e => by cases e⟩⟩)
  · obtain ⟨hpu, k, hk⟩ := hp hpos
    have hany : anycall (Cg G) (lv (Cg G) k).fc f [.psl cs len] noHeap 0 = some (.psl cs len, shutIds noHeap [], 0) := by
      have hp : purs [AV.psl cs len] = true := rfl
      have ho : orcTry (Cg G) f [.psl cs len] noHeap = none := orcTry_none rfl
      have hi' : (Cg G).inl f = false := hi hpos
      have hb : [AV.psl cs len].all noBox = true := rfl
      unfold anycall
      simp only [ho, hi', hb, mapF_purs noHeap 63 hp, hk, Bool.false_eq_true, if_false, if_true]
      rfl
    refine anycall_sound (C := Cg G) (lv_ok (nng G) (orcg G) mix k).1 (orcg G) hany (Nat.le_refl _) hr' hus0 (fun _ _ _ => rfl) r o a next Q fun u w1 m1 Z1 s hu1 => ?_
    exact hn u w1 m1 Z1 _ _ (Step_cfg (C := Cg G) (C' := Cf G) rfl s) (RV_pur _ _ rfl hu1)
theorem of_Gf' {C : Cfg} {f : FuncId} {args : List AV} {h : Heap} {n : Nat} {Q : AV → Heap → Nat → Prop} (hg : Gf C f args h n Q) : ∃ k v h' n', (lv C k).fc f args h n = some (v, h', n') ∧ Q v h' n' := hg.go
theorem cl_of {G : Nat → Option (List AV)} {f : FuncId} (h1 : Gf (Cg G) f [.nilS] noHeap 0 fun v h n => v = .nilS ∧ h = noHeap ∧ n = 0) (h2 : Gf (Cg G) f [.emp] noHeap 0 fun v _ n => v = .osl 1 0 0 ∧ n = 2) : ClOk G f := by
  obtain ⟨k, v, h, n, e, rfl, rfl, rfl⟩ := h1.go
  obtain ⟨k2, v2, h3, n2, e2, rfl, rfl⟩ := h2.go
  exact ⟨⟨k, e⟩, ⟨k2, h3, e2⟩⟩
theorem cut_all {cs : List AV} {n : Nat} (h : cs.length = n) : cut cs 0 n = cs := by simp [cut, ← h]
theorem okg114 : codeOk 8 (Tryz.f114.body.getD .skip) = true := by kernel_rfl
theorem okg115 : codeOk 8 (Tryz.f115.body.getD .skip) = true := by kernel_rfl
theorem okg116 : codeOk 8 (Tryz.f116.body.getD .skip) = true := by kernel_rfl
theorem okg328 : codeOk 8 (Tryz.f328.body.getD .skip) = true := by kernel_rfl
theorem cl114 (G : Nat → Option (List AV)) : ClOk G 114 := by
  refine cl_of ?_ ?_
  all_goals
    refine w_fn (C := Cg G) Tryz.func114 rfl okg114 rfl ?_
    simp only [Tryz.f114, Option.getD_some]
    repeat' first | refine w_op rfl rfl ?_ | refine x_p rfl ?_ | refine w_sr ?_ | refine st_nil ?_ | refine w_seq ?_ | refine st_region ?_ | refine st_block ?_ | refine w_cond ?_ | refine b_t ?_ | refine b_f ?_ | refine st_skip ?_ | refine st_exit ?_ | refine st_ret ?_ | refine st_onNormN ?_ | refine st_onNormE ?_ | refine st_onNormR ?_ | refine st_onExitN ?_ | refine st_onExitR ?_ | refine st_onExitS ?_ | refine st_onExitO (by decide) ?_ | refine g_t ?_ | refine g_f rfl ?_ | refine o_op rfl ?_ | refine w_wr ?_ | refine w_wn ?_ | refine d_c rfl ?_ | refine d_on rfl ?_ | refine d_op rfl ?_ | refine d_y ?_ | refine d_gd rfl ?_ | refine d_t ?_ | refine d_f ?_ | refine d_nil ?_ | refine w_dr rfl ?_ | refine d_q ?_ | refine w_gd rfl ?_ | ((first | refine zE1 ?_); (conv => arg 1; try simp only [go_sem, Nat.reduceEqDiff, reduceIte, Nat.reduceAdd, Nat.reduceLeDiff, Nat.reduceMul, Int.reduceEq, Int.reduceLT, Int.reduceLE, Int.reduceNeg, Int.reduceAdd, Int.reduceSub, Nat.reduceLT, Nat.reduceBEq, Nat.reduceSub, Nat.reducePow, CgP, vb_n2, vb_n3, nilDesc, rep, Nat.zero_mul, Nat.le_zero, Nat.zero_le]); first | refine zE3 ?_ | refine zE2 ?_ | refine zE4 ?_ | refine zE5 ?_ | refine zE6 ?_ | refine zE7 ?_ | refine zE8 ?_) | (refine w_u false ?_; (conv => arg 1; reduce); refine zR1 ?_) | (refine b_s (fun hb => ?_) (fun hb => ?_) <;> ((try simp only [hn1, hn2, hn3, hn4] at hb); first | (exfalso; omega) | skip)) | (first | refine g_s (fun hb => ?_) (fun hb => ?_) | refine d_s (fun hb => ?_) (fun hb => ?_)) <;> ((try simp only [hn1, hn2] at hb); rw [hb]; try simp only [hn3, hn4] at hb)
    first | exact ⟨rfl, rfl, rfl⟩ | exact ⟨rfl, rfl⟩
theorem cl115 (G : Nat → Option (List AV)) : ClOk G 115 := by
  refine cl_of ?_ ?_
  all_goals
    refine w_fn (C := Cg G) Tryz.func115 rfl okg115 rfl ?_
    simp only [Tryz.f115, Option.getD_some]
    repeat' first | refine w_op rfl rfl ?_ | refine x_p rfl ?_ | refine w_sr ?_ | refine st_nil ?_ | refine w_seq ?_ | refine st_region ?_ | refine st_block ?_ | refine w_cond ?_ | refine b_t ?_ | refine b_f ?_ | refine st_skip ?_ | refine st_exit ?_ | refine st_ret ?_ | refine st_onNormN ?_ | refine st_onNormE ?_ | refine st_onNormR ?_ | refine st_onExitN ?_ | refine st_onExitR ?_ | refine st_onExitS ?_ | refine st_onExitO (by decide) ?_ | refine g_t ?_ | refine g_f rfl ?_ | refine o_op rfl ?_ | refine w_wr ?_ | refine w_wn ?_ | refine d_c rfl ?_ | refine d_on rfl ?_ | refine d_op rfl ?_ | refine d_y ?_ | refine d_gd rfl ?_ | refine d_t ?_ | refine d_f ?_ | refine d_nil ?_ | refine w_dr rfl ?_ | refine d_q ?_ | refine w_gd rfl ?_ | ((first | refine zE1 ?_); (conv => arg 1; try simp only [go_sem, Nat.reduceEqDiff, reduceIte, Nat.reduceAdd, Nat.reduceLeDiff, Nat.reduceMul, Int.reduceEq, Int.reduceLT, Int.reduceLE, Int.reduceNeg, Int.reduceAdd, Int.reduceSub, Nat.reduceLT, Nat.reduceBEq, Nat.reduceSub, Nat.reducePow, CgP, vb_n2, vb_n3, nilDesc, rep, Nat.zero_mul, Nat.le_zero, Nat.zero_le]); first | refine zE3 ?_ | refine zE2 ?_ | refine zE4 ?_ | refine zE5 ?_ | refine zE6 ?_ | refine zE7 ?_ | refine zE8 ?_) | (refine w_u false ?_; (conv => arg 1; reduce); refine zR1 ?_) | (refine b_s (fun hb => ?_) (fun hb => ?_) <;> ((try simp only [hn1, hn2, hn3, hn4] at hb); first | (exfalso; omega) | skip)) | (first | refine g_s (fun hb => ?_) (fun hb => ?_) | refine d_s (fun hb => ?_) (fun hb => ?_)) <;> ((try simp only [hn1, hn2] at hb); rw [hb]; try simp only [hn3, hn4] at hb)
    first | exact ⟨rfl, rfl, rfl⟩ | exact ⟨rfl, rfl⟩
theorem cl116 (G : Nat → Option (List AV)) : ClOk G 116 := by
  refine cl_of ?_ ?_
  all_goals
    refine w_fn (C := Cg G) Tryz.func116 rfl okg116 rfl ?_
    simp only [Tryz.f116, Option.getD_some]
    repeat' first | refine w_op rfl rfl ?_ | refine x_p rfl ?_ | refine w_sr ?_ | refine st_nil ?_ | refine w_seq ?_ | refine st_region ?_ | refine st_block ?_ | refine w_cond ?_ | refine b_t ?_ | refine b_f ?_ | refine st_skip ?_ | refine st_exit ?_ | refine st_ret ?_ | refine st_onNormN ?_ | refine st_onNormE ?_ | refine st_onNormR ?_ | refine st_onExitN ?_ | refine st_onExitR ?_ | refine st_onExitS ?_ | refine st_onExitO (by decide) ?_ | refine g_t ?_ | refine g_f rfl ?_ | refine o_op rfl ?_ | refine w_wr ?_ | refine w_wn ?_ | refine d_c rfl ?_ | refine d_on rfl ?_ | refine d_op rfl ?_ | refine d_y ?_ | refine d_gd rfl ?_ | refine d_t ?_ | refine d_f ?_ | refine d_nil ?_ | refine w_dr rfl ?_ | refine d_q ?_ | refine w_gd rfl ?_ | ((first | refine zE1 ?_); (conv => arg 1; try simp only [go_sem, Nat.reduceEqDiff, reduceIte, Nat.reduceAdd, Nat.reduceLeDiff, Nat.reduceMul, Int.reduceEq, Int.reduceLT, Int.reduceLE, Int.reduceNeg, Int.reduceAdd, Int.reduceSub, Nat.reduceLT, Nat.reduceBEq, Nat.reduceSub, Nat.reducePow, CgP, vb_n2, vb_n3, nilDesc, rep, Nat.zero_mul, Nat.le_zero, Nat.zero_le]); first | refine zE3 ?_ | refine zE2 ?_ | refine zE4 ?_ | refine zE5 ?_ | refine zE6 ?_ | refine zE7 ?_ | refine zE8 ?_) | (refine w_u false ?_; (conv => arg 1; reduce); refine zR1 ?_) | (refine b_s (fun hb => ?_) (fun hb => ?_) <;> ((try simp only [hn1, hn2, hn3, hn4] at hb); first | (exfalso; omega) | skip)) | (first | refine g_s (fun hb => ?_) (fun hb => ?_) | refine d_s (fun hb => ?_) (fun hb => ?_)) <;> ((try simp only [hn1, hn2] at hb); rw [hb]; try simp only [hn3, hn4] at hb)
    first | exact ⟨rfl, rfl, rfl⟩ | exact ⟨rfl, rfl⟩
theorem cl328 (G : Nat → Option (List AV)) : ClOk G 328 := by
  refine cl_of ?_ ?_
  all_goals
    refine w_fn (C := Cg G) Tryz.func328 rfl okg328 rfl ?_
    simp only [Tryz.f328, Option.getD_some]
    repeat' first | refine w_op rfl rfl ?_ | refine x_p rfl ?_ | refine w_sr ?_ | refine st_nil ?_ | refine w_seq ?_ | refine st_region ?_ | refine st_block ?_ | refine w_cond ?_ | refine b_t ?_ | refine b_f ?_ | refine st_skip ?_ | refine st_exit ?_ | refine st_ret ?_ | refine st_onNormN ?_ | refine st_onNormE ?_ | refine st_onNormR ?_ | refine st_onExitN ?_ | refine st_onExitR ?_ | refine st_onExitS ?_ | refine st_onExitO (by decide) ?_ | refine g_t ?_ | refine g_f rfl ?_ | refine o_op rfl ?_ | refine w_wr ?_ | refine w_wn ?_ | refine d_c rfl ?_ | refine d_on rfl ?_ | refine d_op rfl ?_ | refine d_y ?_ | refine d_gd rfl ?_ | refine d_t ?_ | refine d_f ?_ | refine d_nil ?_ | refine w_dr rfl ?_ | refine d_q ?_ | refine w_gd rfl ?_ | ((first | refine zE1 ?_); (conv => arg 1; try simp only [go_sem, Nat.reduceEqDiff, reduceIte, Nat.reduceAdd, Nat.reduceLeDiff, Nat.reduceMul, Int.reduceEq, Int.reduceLT, Int.reduceLE, Int.reduceNeg, Int.reduceAdd, Int.reduceSub, Nat.reduceLT, Nat.reduceBEq, Nat.reduceSub, Nat.reducePow, CgP, vb_n2, vb_n3, nilDesc, rep, Nat.zero_mul, Nat.le_zero, Nat.zero_le]); first | refine zE3 ?_ | refine zE2 ?_ | refine zE4 ?_ | refine zE5 ?_ | refine zE6 ?_ | refine zE7 ?_ | refine zE8 ?_) | (refine w_u false ?_; (conv => arg 1; reduce); refine zR1 ?_) | (refine b_s (fun hb => ?_) (fun hb => ?_) <;> ((try simp only [hn1, hn2, hn3, hn4] at hb); first | (exfalso; omega) | skip)) | (first | refine g_s (fun hb => ?_) (fun hb => ?_) | refine d_s (fun hb => ?_) (fun hb => ?_)) <;> ((try simp only [hn1, hn2] at hb); rw [hb]; try simp only [hn3, hn4] at hb)
    first | exact ⟨rfl, rfl, rfl⟩ | exact ⟨rfl, rfl⟩
theorem cp114 (G : Nat → Option (List AV)) (cs : List AV) (len : Nat) (hl : cs.length = len * 1) (hb : len * 4 ≤ 140737488355328) (hpu : purs cs = true) (h0 : 0 < len) : Pc (Cg G) 114 [.psl cs len] (.psl cs len) := by
  obtain ⟨k, rfl⟩ : ∃ k, len = k + 1 := ⟨len - 1, by omega⟩
  have h1 : k + 1 ≤ 140737488355328 := by omega
  have h2 : cut cs 0 ((k + 1) * 1) = cs := cut_all hl
  refine Pc_of ?_
  refine w_fn (C := Cg G) Tryz.func114 rfl okg114 rfl ?_
  simp only [Tryz.f114, Option.getD_some]
  repeat' first | refine w_op rfl rfl ?_ | refine x_p rfl ?_ | refine w_sr ?_ | refine st_nil ?_ | refine w_seq ?_ | refine st_region ?_ | refine st_block ?_ | refine w_cond ?_ | refine b_t ?_ | refine b_f ?_ | refine st_skip ?_ | refine st_exit ?_ | refine st_ret ?_ | refine st_onNormN ?_ | refine st_onNormE ?_ | refine st_onNormR ?_ | refine st_onExitN ?_ | refine st_onExitR ?_ | refine st_onExitS ?_ | refine st_onExitO (by decide) ?_ | refine g_t ?_ | refine g_f rfl ?_ | refine o_op rfl ?_ | refine w_wr ?_ | refine w_wn ?_ | refine d_c rfl ?_ | refine d_on rfl ?_ | refine d_op rfl ?_ | refine d_y ?_ | refine d_gd rfl ?_ | refine d_t ?_ | refine d_f ?_ | refine d_nil ?_ | refine w_dr rfl ?_ | refine d_q ?_ | refine w_gd rfl ?_ | ((first | refine zE1 ?_); (conv => arg 1; try simp only [go_sem, Nat.reduceEqDiff, reduceIte, Nat.reduceAdd, Nat.reduceLeDiff, Nat.reduceMul, Int.reduceEq, Int.reduceLT, Int.reduceLE, Int.reduceNeg, Int.reduceAdd, Int.reduceSub, Nat.reduceLT, Nat.reduceBEq, Nat.reduceSub, Nat.reducePow, CgP, vb_n1, nilDesc, rep, Nat.zero_mul, hl, hb, h1, h2, hpu]); first | refine zE3 ?_ | refine zE2 ?_ | refine zE4 ?_ | refine zE5 ?_ | refine zE6 ?_ | refine zE7 ?_ | refine zE8 ?_) | (refine w_u false ?_; (conv => arg 1; reduce); refine zR1 ?_) | (refine b_s (fun hb => ?_) (fun hb => ?_) <;> ((try simp only [hn1, hn2, hn3, hn4] at hb); first | (exfalso; omega) | skip)) | (first | refine g_s (fun hb => ?_) (fun hb => ?_) | refine d_s (fun hb => ?_) (fun hb => ?_)) <;> ((try simp only [hn1, hn2] at hb); rw [hb]; try simp only [hn3, hn4] at hb)
  simp only [one1]
  rw [frz_w (by simp only [vop, val, argsT, upd_ap, Nat.reduceEqDiff, if_true, if_false, ite_true, ite_false, reduceIte, loadAt, loadA, AV.cells, AV.one, List.all_cons, List.all_nil, ofV, ofCell, plain, List.getElem?_cons_zero, List.getElem?_cons_succ, List.getElem?_toArray, Option.getD_some, Bool.not_true, Bool.not_false, Bool.false_eq_true, Bool.and_true, Bool.true_and, Bool.and_self, Nat.zero_add, Option.map_some, Option.bind_some, List.map_cons, List.map_nil, ev_add, ev_sub, ev_mul, ev_lss, ev_leq, ev_gtr, ev_geq, ev_eql, ev_neq, ev_seql, ev_sneq, ev_sleq, ev_slss, ev_not, ev_min, ev_max, asNat_nat, asNat_zero, asNat_one, asNat_two, asNat_three, vb_len, List.length_cons, List.length_nil, Nat.reduceAdd, Nat.reduceLeDiff, Nat.reduceMul, Int.reduceEq, Int.reduceLT, Int.reduceLE, Int.reduceNeg, Int.reduceAdd, Int.reduceSub, Nat.reduceLT, decide_true, decide_false, not_true_eq_false, not_false_eq_true, and_self, and_true, true_and, storeA, List.take_zero, List.drop_succ_cons, List.drop_zero, List.nil_append, List.append_nil, List.take_succ_cons, List.cons_append, cut_cons, cut_zero, cut_skip, tAt, hHide, hAt, upsAt, List.contains_cons, List.contains_nil, Nat.reduceBEq, Bool.or_true, Bool.true_or, Bool.or_false, Bool.false_or, Bool.or_self, Bool.and_true, Bool.true_and, Bool.and_false, Bool.false_and, beq_self_eq_true (α := Nat), Option.some_beq_some, Option.none_beq_some, Option.some_beq_none, Bool.false_eq_true, List.all_nil, touch, touchB, Nat.sub_self, List.range'_zero, Nat.add_sub_cancel_left, List.range'_one]; with_reducible rfl) hl hpu]
  rfl
theorem cp115 (G : Nat → Option (List AV)) (cs : List AV) (len : Nat) (hl : cs.length = len * 1) (hb : len * 16 ≤ 140737488355328) (hpu : purs cs = true) (h0 : 0 < len) : Pc (Cg G) 115 [.psl cs len] (.psl cs len) := by
  obtain ⟨k, rfl⟩ : ∃ k, len = k + 1 := ⟨len - 1, by omega⟩
  have h1 : k + 1 ≤ 140737488355328 := by omega
  have h2 : cut cs 0 ((k + 1) * 1) = cs := cut_all hl
  refine Pc_of ?_
  refine w_fn (C := Cg G) Tryz.func115 rfl okg115 rfl ?_
  simp only [Tryz.f115, Option.getD_some]
  repeat' first | refine w_op rfl rfl ?_ | refine x_p rfl ?_ | refine w_sr ?_ | refine st_nil ?_ | refine w_seq ?_ | refine st_region ?_ | refine st_block ?_ | refine w_cond ?_ | refine b_t ?_ | refine b_f ?_ | refine st_skip ?_ | refine st_exit ?_ | refine st_ret ?_ | refine st_onNormN ?_ | refine st_onNormE ?_ | refine st_onNormR ?_ | refine st_onExitN ?_ | refine st_onExitR ?_ | refine st_onExitS ?_ | refine st_onExitO (by decide) ?_ | refine g_t ?_ | refine g_f rfl ?_ | refine o_op rfl ?_ | refine w_wr ?_ | refine w_wn ?_ | refine d_c rfl ?_ | refine d_on rfl ?_ | refine d_op rfl ?_ | refine d_y ?_ | refine d_gd rfl ?_ | refine d_t ?_ | refine d_f ?_ | refine d_nil ?_ | refine w_dr rfl ?_ | refine d_q ?_ | refine w_gd rfl ?_ | ((first | refine zE1 ?_); (conv => arg 1; try simp only [go_sem, Nat.reduceEqDiff, reduceIte, Nat.reduceAdd, Nat.reduceLeDiff, Nat.reduceMul, Int.reduceEq, Int.reduceLT, Int.reduceLE, Int.reduceNeg, Int.reduceAdd, Int.reduceSub, Nat.reduceLT, Nat.reduceBEq, Nat.reduceSub, Nat.reducePow, CgP, vb_n1, nilDesc, rep, Nat.zero_mul, hl, hb, h1, h2, hpu]); first | refine zE3 ?_ | refine zE2 ?_ | refine zE4 ?_ | refine zE5 ?_ | refine zE6 ?_ | refine zE7 ?_ | refine zE8 ?_) | (refine w_u false ?_; (conv => arg 1; reduce); refine zR1 ?_) | (refine b_s (fun hb => ?_) (fun hb => ?_) <;> ((try simp only [hn1, hn2, hn3, hn4] at hb); first | (exfalso; omega) | skip)) | (first | refine g_s (fun hb => ?_) (fun hb => ?_) | refine d_s (fun hb => ?_) (fun hb => ?_)) <;> ((try simp only [hn1, hn2] at hb); rw [hb]; try simp only [hn3, hn4] at hb)
  simp only [one1]
  rw [frz_w (by simp only [vop, val, argsT, upd_ap, Nat.reduceEqDiff, if_true, if_false, ite_true, ite_false, reduceIte, loadAt, loadA, AV.cells, AV.one, List.all_cons, List.all_nil, ofV, ofCell, plain, List.getElem?_cons_zero, List.getElem?_cons_succ, List.getElem?_toArray, Option.getD_some, Bool.not_true, Bool.not_false, Bool.false_eq_true, Bool.and_true, Bool.true_and, Bool.and_self, Nat.zero_add, Option.map_some, Option.bind_some, List.map_cons, List.map_nil, ev_add, ev_sub, ev_mul, ev_lss, ev_leq, ev_gtr, ev_geq, ev_eql, ev_neq, ev_seql, ev_sneq, ev_sleq, ev_slss, ev_not, ev_min, ev_max, asNat_nat, asNat_zero, asNat_one, asNat_two, asNat_three, vb_len, List.length_cons, List.length_nil, Nat.reduceAdd, Nat.reduceLeDiff, Nat.reduceMul, Int.reduceEq, Int.reduceLT, Int.reduceLE, Int.reduceNeg, Int.reduceAdd, Int.reduceSub, Nat.reduceLT, decide_true, decide_false, not_true_eq_false, not_false_eq_true, and_self, and_true, true_and, storeA, List.take_zero, List.drop_succ_cons, List.drop_zero, List.nil_append, List.append_nil, List.take_succ_cons, List.cons_append, cut_cons, cut_zero, cut_skip, tAt, hHide, hAt, upsAt, List.contains_cons, List.contains_nil, Nat.reduceBEq, Bool.or_true, Bool.true_or, Bool.or_false, Bool.false_or, Bool.or_self, Bool.and_true, Bool.true_and, Bool.and_false, Bool.false_and, beq_self_eq_true (α := Nat), Option.some_beq_some, Option.none_beq_some, Option.some_beq_none, Bool.false_eq_true, List.all_nil, touch, touchB, Nat.sub_self, List.range'_zero, Nat.add_sub_cancel_left, List.range'_one]; with_reducible rfl) hl hpu]
  rfl
theorem cp328 (G : Nat → Option (List AV)) (cs : List AV) (len : Nat) (hl : cs.length = len * 1) (hb : len * 4 ≤ 140737488355328) (hpu : purs cs = true) (h0 : 0 < len) : Pc (Cg G) 328 [.psl cs len] (.psl cs len) := by
  obtain ⟨k, rfl⟩ : ∃ k, len = k + 1 := ⟨len - 1, by omega⟩
  have h1 : k + 1 ≤ 140737488355328 := by omega
  have h2 : cut cs 0 ((k + 1) * 1) = cs := cut_all hl
  refine Pc_of ?_
  refine w_fn (C := Cg G) Tryz.func328 rfl okg328 rfl ?_
  simp only [Tryz.f328, Option.getD_some]
  repeat' first | refine w_op rfl rfl ?_ | refine x_p rfl ?_ | refine w_sr ?_ | refine st_nil ?_ | refine w_seq ?_ | refine st_region ?_ | refine st_block ?_ | refine w_cond ?_ | refine b_t ?_ | refine b_f ?_ | refine st_skip ?_ | refine st_exit ?_ | refine st_ret ?_ | refine st_onNormN ?_ | refine st_onNormE ?_ | refine st_onNormR ?_ | refine st_onExitN ?_ | refine st_onExitR ?_ | refine st_onExitS ?_ | refine st_onExitO (by decide) ?_ | refine g_t ?_ | refine g_f rfl ?_ | refine o_op rfl ?_ | refine w_wr ?_ | refine w_wn ?_ | refine d_c rfl ?_ | refine d_on rfl ?_ | refine d_op rfl ?_ | refine d_y ?_ | refine d_gd rfl ?_ | refine d_t ?_ | refine d_f ?_ | refine d_nil ?_ | refine w_dr rfl ?_ | refine d_q ?_ | refine w_gd rfl ?_ | ((first | refine zE1 ?_); (conv => arg 1; try simp only [go_sem, Nat.reduceEqDiff, reduceIte, Nat.reduceAdd, Nat.reduceLeDiff, Nat.reduceMul, Int.reduceEq, Int.reduceLT, Int.reduceLE, Int.reduceNeg, Int.reduceAdd, Int.reduceSub, Nat.reduceLT, Nat.reduceBEq, Nat.reduceSub, Nat.reducePow, CgP, vb_n1, nilDesc, rep, Nat.zero_mul, hl, hb, h1, h2, hpu]); first | refine zE3 ?_ | refine zE2 ?_ | refine zE4 ?_ | refine zE5 ?_ | refine zE6 ?_ | refine zE7 ?_ | refine zE8 ?_) | (refine w_u false ?_; (conv => arg 1; reduce); refine zR1 ?_) | (refine b_s (fun hb => ?_) (fun hb => ?_) <;> ((try simp only [hn1, hn2, hn3, hn4] at hb); first | (exfalso; omega) | skip)) | (first | refine g_s (fun hb => ?_) (fun hb => ?_) | refine d_s (fun hb => ?_) (fun hb => ?_)) <;> ((try simp only [hn1, hn2] at hb); rw [hb]; try simp only [hn3, hn4] at hb)
  simp only [one1]
  rw [frz_w (by simp only [vop, val, argsT, upd_ap, Nat.reduceEqDiff, if_true, if_false, ite_true, ite_false, reduceIte, loadAt, loadA, AV.cells, AV.one, List.all_cons, List.all_nil, ofV, ofCell, plain, List.getElem?_cons_zero, List.getElem?_cons_succ, List.getElem?_toArray, Option.getD_some, Bool.not_true, Bool.not_false, Bool.false_eq_true, Bool.and_true, Bool.true_and, Bool.and_self, Nat.zero_add, Option.map_some, Option.bind_some, List.map_cons, List.map_nil, ev_add, ev_sub, ev_mul, ev_lss, ev_leq, ev_gtr, ev_geq, ev_eql, ev_neq, ev_seql, ev_sneq, ev_sleq, ev_slss, ev_not, ev_min, ev_max, asNat_nat, asNat_zero, asNat_one, asNat_two, asNat_three, vb_len, List.length_cons, List.length_nil, Nat.reduceAdd, Nat.reduceLeDiff, Nat.reduceMul, Int.reduceEq, Int.reduceLT, Int.reduceLE, Int.reduceNeg, Int.reduceAdd, Int.reduceSub, Nat.reduceLT, decide_true, decide_false, not_true_eq_false, not_false_eq_true, and_self, and_true, true_and, storeA, List.take_zero, List.drop_succ_cons, List.drop_zero, List.nil_append, List.append_nil, List.take_succ_cons, List.cons_append, cut_cons, cut_zero, cut_skip, tAt, hHide, hAt, upsAt, List.contains_cons, List.contains_nil, Nat.reduceBEq, Bool.or_true, Bool.true_or, Bool.or_false, Bool.false_or, Bool.or_self, Bool.and_true, Bool.true_and, Bool.and_false, Bool.false_and, beq_self_eq_true (α := Nat), Option.some_beq_some, Option.none_beq_some, Option.some_beq_none, Bool.false_eq_true, List.all_nil, touch, touchB, Nat.sub_self, List.range'_zero, Nat.add_sub_cancel_left, List.range'_one]; with_reducible rfl) hl hpu]
  rfl
def Gu8 (mx : Int) : Nat → Option (List AV)
  | 0 => some ((List.range 256).map fun c => .sc (.int .u8 (Lib.firstT c)))
  | 1 => some ((List.range 16).flatMap fun i => [.sc (.int .u8 (Lib.accLo i)), .sc (.int .u8 (Lib.accHi i))])
  | 2 => some [.sc (.int .i64 mx)]
  | _ => none
set_option maxRecDepth 100000 in
theorem glob_cell {mx : Int} {w : World} {Z : Nat → Prop} (hr : HR (Cf (Gu8 mx)) noMap Z noHeap w) : ∀ g cs, Gu8 mx g = some cs → ∀ (i : Nat) (v : Value), cs[i]? = some (.sc v) → w.cell? ⟨g, i, none⟩ = some v := by
  have key : ∀ g cs, Gu8 mx g = some cs → ∀ (i : Nat) (v : Value), cs[i]? = some (.sc v) → w.cell? ⟨g, i, none⟩ = some v := by
    intro g cs hg i v hi
    have h := hr.glob g cs hg
    simp only [RV] at h
    obtain ⟨blk, base, us, e, _, hc, hv⟩ := h
    simp only [Value.pointer.injEq, Option.some.injEq, Addr.mk.injEq, and_true] at e
    obtain ⟨rfl, e⟩ := e
    obtain rfl : base = 0 := by omega
    obtain ⟨u, h1, _, h2⟩ := RVs_get hv i hi
    have hlt : i < us.length := (List.getElem?_eq_some_iff.1 h1).1
    have := hc i hlt
    rw [h1, Nat.zero_add] at this
    simp only [RV] at h2
    rw [this, h2.1]
  exact key
theorem maxLen_of {mx : Int} {w : World} {Z : Nat → Prop} (hr : HR (Cf (Gu8 mx)) noMap Z noHeap w) : w.cell? ⟨2, 0, none⟩ = some (.int .i64 mx) := glob_cell hr 2 _ rfl 0 _ rfl
set_option maxRecDepth 100000 in
theorem tabs_of {mx : Int} {w : World} {Z : Nat → Prop} (hr : HR (Cf (Gu8 mx)) noMap Z noHeap w) : Lib.Utf8Tabs 0 1 w := by
  have key := glob_cell hr
  refine ⟨fun c hc => key 0 _ rfl c _ (by simp [hc]), fun i hi => ⟨key 1 _ rfl (2 * i) _ ?_, key 1 _ rfl (2 * i + 1) _ ?_⟩⟩
  · have : i = 0 ∨ i = 1 ∨ i = 2 ∨ i = 3 ∨ i = 4 ∨ i = 5 ∨ i = 6 ∨ i = 7 ∨ i = 8 ∨ i = 9 ∨ i = 10 ∨ i = 11 ∨ i = 12 ∨ i = 13 ∨ i = 14 ∨ i = 15 := by omega
    rcases this with rfl | rfl | rfl | rfl | rfl | rfl | rfl | rfl | rfl | rfl | rfl | rfl | rfl | rfl | rfl | rfl <;> rfl
  · have : i = 0 ∨ i = 1 ∨ i = 2 ∨ i = 3 ∨ i = 4 ∨ i = 5 ∨ i = 6 ∨ i = 7 ∨ i = 8 ∨ i = 9 ∨ i = 10 ∨ i = 11 ∨ i = 12 ∨ i = 13 ∨ i = 14 ∨ i = 15 := by omega
    rcases this with rfl | rfl | rfl | rfl | rfl | rfl | rfl | rfl | rfl | rfl | rfl | rfl | rfl | rfl | rfl | rfl <;> rfl
theorem ent172 (s : ByteArray) (w : World) : (callFunc 172 [Value.string s].toArray).run Tryz.prog w = .ok (.enter 172 [Value.string s].toArray) w :=
  Go.Proofs.enters_of Tryz.func172 (by kernel_rfl) rfl _ _
set_option maxRecDepth 100000 in
theorem ent128 (s t : ByteArray) (w : World) : (callFunc 128 [Value.string s, Value.string t].toArray).run Tryz.prog w = .ok (.enter 128 [Value.string s, Value.string t].toArray) w :=
  Go.Proofs.enters_of Tryz.func128 (by kernel_rfl) rfl _ _
set_option maxRecDepth 100000 in
theorem orcOk (mx : Int) : OrcOk (Cf (Gu8 mx)) := by
  intro f g ars v hf hg Z w us hr hus r o a next Q hn
  have hf' : orcF f = some g := hf
  unfold orcF at hf'
  have clone : ∀ sz by_ : Nat, sz = 1 → g = orcClone sz by_ → inlF f = false → ClOk (Gu8 mx) f → (∀ cs len, cs.length = len * 1 → len * by_ ≤ 140737488355328 → purs cs = true → 0 < len → Pc (Cg (Gu8 mx)) f [.psl cs len] (.psl cs len)) →
      o.uponIn (Fw r) 0 (Cf (Gu8 mx)).P a next Q ((callFunc f us.toArray).run (Cf (Gu8 mx)).P w) := by
    intro sz by_ hsz hgo hi hc hp
    subst hsz; subst hgo
    unfold orcClone at hg
    split at hg <;> try (cases hg; done)
    rename_i cs len
    split at hg <;> try (cases hg; done)
    rename_i hcond
    obtain ⟨h1, h2, h3⟩ := hcond
    injection hg with hg
    subst hg
    exact clone_upon hc (fun _ => hi) (fun h0 => List.eq_nil_of_length_eq_zero (by rw [h1, h0])) (fun h0 => ⟨h3, hp cs len h1 h2 h3 h0⟩) Z w us hr hus r o a next Q hn
  split at hf'
  · rename_i e
    subst e
    injection hf' with hf'
    subst hf'
    unfold orcDecode at hg
    split at hg <;> try (cases hg; done)
    rename_i s
    injection hg with hg
    subst hg
    simp only [RVl, RV] at hus
    obtain ⟨u, rest, rfl, ⟨rfl, _⟩, rfl⟩ := hus
    refine orc_upon (C := Cf (Gu8 mx)) (u := .tuple #[.int .i32 (Lib.decodeGo s).1, .int .i64 (Lib.decodeGo s).2]) hr (ent172 s w) (Tryz.utf8_DecodeRuneInString s w (tabs_of hr)) ?_ r o a next Q hn
    intro w'
    simp only [RV, RVl]
    exact ⟨[.int .i32 (Lib.decodeGo s).1, .int .i64 (Lib.decodeGo s).2], rfl, _, _, rfl, ⟨rfl, rfl⟩, _, _, rfl, ⟨rfl, rfl⟩, rfl⟩
  · split at hf'
    · rename_i e
      subst e
      injection hf' with hf'
      exact clone 1 4 rfl hf'.symm rfl (cl114 _) (fun cs len h1 h2 h3 h0 => cp114 _ cs len h1 h2 h3 h0)
    · split at hf'
      · rename_i e
        subst e
        injection hf' with hf'
        exact clone 1 4 rfl hf'.symm rfl (cl328 _) (fun cs len h1 h2 h3 h0 => cp328 _ cs len h1 h2 h3 h0)
      · split at hf'
        · rename_i e
          subst e
          injection hf' with hf'
          exact clone 1 16 rfl hf'.symm rfl (cl115 _) (fun cs len h1 h2 h3 h0 => cp115 _ cs len h1 h2 h3 h0)
        · split at hf'
          · rename_i e
            subst e
            injection hf' with hf'
            subst hf'
            unfold orcEmpty at hg
            split at hg <;> try (cases hg; done)
            injection hg with hg
            subst hg
            exact clone_upon (f := 116) (cs := []) (len := 0) (cl116 _) (fun h => by omega) (fun _ => rfl) (fun h => by omega) Z w us hr hus r o a next Q hn
          · split at hf'
            · rename_i e
              subst e
              injection hf' with hf'
              subst hf'
              unfold orcContains at hg
              split at hg <;> try (cases hg; done)
              rename_i s t
              split at hg <;> try (cases hg; done)
              rename_i hlt
              injection hg with hg
              subst hg
              simp only [RVl, RV] at hus
              obtain ⟨u, rest, rfl, ⟨rfl, _⟩, u2, rest2, rfl, ⟨rfl, _⟩, rfl⟩ := hus
              refine orc_upon (C := Cf (Gu8 mx)) (u := .bool (Lib.contains s.data.toList t.data.toList)) hr (ent128 s t w) ((Tryz.strings_Contains s t mx w hlt (maxLen_of hr)).mono ?_) ?_ r o a next Q hn
              · rintro e w' ⟨rfl, rfl⟩
                exact ⟨rfl, ⟨rfl, rfl, rfl, Nat.le_refl _, fun _ _ => rfl⟩⟩
              · intro w'
                simp [RV, plain]
            · cases hf'
end Go.Proofs.Bv
