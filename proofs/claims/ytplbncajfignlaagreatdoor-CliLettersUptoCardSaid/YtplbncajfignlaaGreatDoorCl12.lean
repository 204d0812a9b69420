/-
  A part of the proof of CliLettersUptoCardSaid: CkDecode, CkVal, CkDig2.
  Conditions: those that each part names.
-/
import Derived.Test.YtplbncajfignlaaGreatDoorCl11
import Derived.Shelf.Unicode.DecodeAny
import Derived.Test.YtplbncajfignlaaGreatDoorProg
import Derived.IntWalk
set_option linter.unusedSimpArgs false
set_option linter.unusedVariables false
namespace Go.Proofs
open Go.Shelf
def Tryz.lays197_ren : Go.Shelf.Ren := ⟨fun | 197 => 122 | 260 => 168 | n => n, fun | 9 => 9 | 21 => 21 | 3 => 3 | 4 => 4 | 5 => 5 | 105 => 169 | 119 => 197 | 0 => 0 | 46 => 162 | 139 => 253 | 138 => 252 | n => n, fun | 3 => 3 | 4 => 4 | n => n⟩
theorem Tryz.lays197 : Go.Proofs.Lays.n197 Tryz.prog Tryz.lays197_ren := {
  mixed := by kernel_rfl
  f197 := Tryz.func122.trans (congrArg some (by kernel_rfl))
  f260 := Tryz.func168.trans (congrArg some (by kernel_rfl))
  t0 := Tryz.underlying0
  a0 := Tryz.isAgg0
  z0 := Tryz.sizeOf0
  v0 := Tryz.zeroValue0
  t3 := Tryz.underlying3
  a3 := Tryz.isAgg3
  z3 := Tryz.sizeOf3
  v3 := Tryz.zeroValue3
  t4 := Tryz.underlying4
  a4 := Tryz.isAgg4
  z4 := Tryz.sizeOf4
  v4 := Tryz.zeroValue4
  t5 := Tryz.underlying5
  a5 := Tryz.isAgg5
  z5 := Tryz.sizeOf5
  v5 := Tryz.zeroValue5
  t9 := Tryz.underlying9
  a9 := Tryz.isAgg9
  z9 := Tryz.sizeOf9
  v9 := Tryz.zeroValue9
  t21 := Tryz.underlying21
  a21 := Tryz.isAgg21
  z21 := Tryz.sizeOf21
  v21 := Tryz.zeroValue21
  t46 := Tryz.underlying162
  a46 := Tryz.isAgg162
  z46 := Tryz.sizeOf162
  v46 := Tryz.zeroValue162
  t105 := Tryz.underlying169
  a105 := Tryz.isAgg169
  z105 := Tryz.sizeOf169
  v105 := Tryz.zeroValue169
  t119 := Tryz.underlying197
  a119 := Tryz.isAgg197
  z119 := Tryz.sizeOf197
  t138 := Tryz.underlying252
  a138 := Tryz.isAgg252
  z138 := Tryz.sizeOf252
  v138 := Tryz.zeroValue252
  t139 := Tryz.underlying253
  a139 := Tryz.isAgg253
  z139 := Tryz.sizeOf253
  v139 := Tryz.zeroValue253
  g3 := by kernel_rfl
  g4 := by kernel_rfl }
open Go.RowKit Go.Lib in
theorem Tryz.utf8_DecodeRuneInString (s : ByteArray) (w : World) (hT : Lib.Utf8Tabs 3 4 w) :
    Calls Tryz.prog 122 #[.string s] w fun e w' => e = .returned (.tuple #[.int .i32 (Lib.decodeGo s).1, .int .i64 (Lib.decodeGo s).2]) ∧ Below w.heap.size w w' := Any.utf8_DecodeRuneInString Tryz.lays197 s w hT
end Go.Proofs
namespace Go.Proofs.Bv
open Go
inductive JV where
  | mk (kind : Int) (neg : Bool) (coef : List Int) (exp : Int) (text : ByteArray) (list : List JV) (keys : List ByteArray)
namespace JV
def kind : JV → Int | mk k _ _ _ _ _ _ => k
def neg : JV → Bool | mk _ n _ _ _ _ _ => n
def coef : JV → List Int | mk _ _ c _ _ _ _ => c
def exp : JV → Int | mk _ _ _ e _ _ _ => e
def text : JV → ByteArray | mk _ _ _ _ t _ _ => t
def list : JV → List JV | mk _ _ _ _ _ l _ => l
def keys : JV → List ByteArray | mk _ _ _ _ _ _ k => k
end JV
def u32s (l : List Int) : List AV := l.map fun x => .sc (.int .u32 x)
def strs (l : List ByteArray) : List AV := l.map fun s => .sc (.string s)
mutual
def enc : JV → List AV
  | .mk k ng cf ex t l ks => [.sc (.int .i64 k), .sc (.bool ng), .psl (u32s cf) cf.length, .sc (.int .i64 ex), .sc (.string t), .psl (encs l) l.length, .psl (strs ks) ks.length]
def encs : List JV → List AV
  | [] => []
  | v :: l => enc v ++ encs l
end
theorem u32s_len (l : List Int) : (u32s l).length = l.length := by simp [u32s]
theorem strs_len (l : List ByteArray) : (strs l).length = l.length := by simp [strs]
theorem enc_len : (v : JV) → (enc v).length = 7
  | .mk .. => rfl
theorem encs_len : (l : List JV) → (encs l).length = l.length * 7
  | [] => rfl
  | v :: l => by simp only [encs, List.length_append, enc_len, encs_len l, List.length_cons]; omega
theorem encs_app : (d r : List JV) → encs (d ++ r) = encs d ++ encs r
  | [], r => rfl
  | v :: d, r => by simp only [List.cons_append, encs, encs_app d r, List.append_assoc]
theorem cut_encs (d : List JV) (x : JV) (r : List JV) : cut (encs (d ++ x :: r)) (d.length * 7) 7 = enc x := by
  rw [encs_app, cut, ← encs_len d, List.drop_left, encs, ← enc_len x, List.take_left]
theorem enc_pur : (v : JV) → purs (enc v) = true
  | .mk .. => by simp [enc, purs, AV.pur]
theorem purs_app : (a b : List AV) → purs (a ++ b) = (purs a && purs b)
  | [], b => by simp [purs]
  | x :: a, b => by simp [purs, purs_app a b, Bool.and_assoc]
theorem encs_pur : (l : List JV) → purs (encs l) = true
  | [] => rfl
  | v :: l => by simp [encs, purs_app, enc_pur v, encs_pur l]
structure Fit1 (k : Int) (cf : List Int) (ex : Int) (t : ByteArray) (n : Nat) (ks : List ByteArray) : Prop where
  kind : -9223372036854775808 ≤ k ∧ k ≤ 9223372036854775807
  exp : -9223372036854775808 ≤ ex ∧ ex ≤ 9223372036854775807
  coef : ∀ c ∈ cf, 0 ≤ c ∧ c ≤ 4294967295
  ncoef : cf.length * 4 ≤ 140737488355328
  ntext : t.size ≤ 140737488355328
  nlist : n * 112 ≤ 140737488355328
  nkeys : ks.length * 16 ≤ 140737488355328
  nkey : ∀ s ∈ ks, s.size ≤ 140737488355328
mutual
def Fit : JV → Prop
  | .mk k _ cf ex t l ks => Fit1 k cf ex t l.length ks ∧ Fits l
def Fits : List JV → Prop
  | [] => True
  | v :: l => Fit v ∧ Fits l
end
theorem Fits_mem : {l : List JV} → Fits l → ∀ x ∈ l, Fit x
  | [], _, x, hx => by simp at hx
  | v :: l, h, x, hx => by
    simp only [Fits] at h
    rcases List.mem_cons.1 hx with rfl | hx
    · exact h.1
    · exact Fits_mem h.2 x hx
def inlF (_ : FuncId) : Bool := false
def orcDecode : List AV → Option AV
  | [.sc (.string s)] => some (.tup [.sc (.int .i32 (Lib.decodeGo s).1), .sc (.int .i64 (Lib.decodeGo s).2)])
  | _ => none
def orcF (f : FuncId) : Option (List AV → Option AV) :=
  if f = 122 then some orcDecode else none
noncomputable def Cf (G : Nat → Option (List AV)) : Cfg := ⟨Tryz.prog, G, inlF, orcF, fun _ => false⟩
theorem CfP {G : Nat → Option (List AV)} : (Cf G).P = Tryz.prog := rfl
theorem frz_sc {h : Heap} {k : Nat} {v : Value} : frz h (k + 1) (.sc v) = some (.sc v, []) := frz_pur h k rfl
theorem i64 {x : Int} (h1 : -9223372036854775808 ≤ x) (h2 : x ≤ 9223372036854775807) : IntKind.i64.wrap x = x := IntWalk.i64_in x ⟨h1, h2⟩
theorem split_at {l d r : List JV} (hl : l = d ++ r) (hlt : d.length < l.length) : ∃ x r', r = x :: r' ∧ x ∈ l ∧ cut (encs l) (d.length * 7) 7 = enc x ∧ d.length * 7 + 7 ≤ (encs l).length := by
  cases r with
  | nil => simp [hl] at hlt
  | cons x r =>
    refine ⟨x, r, rfl, by rw [hl]; simp, by rw [hl]; exact cut_encs d x r, ?_⟩
    rw [encs_len]
    omega
theorem split_end {l d r : List JV} (hl : l = d ++ r) (hge : ¬ (d.length : Int) < (l.length : Int)) : r = [] := by
  cases r with
  | nil => rfl
  | cons x r => simp [hl] at hge; omega
end Go.Proofs.Bv
namespace Go.Proofs.Bv
open Go
theorem digs_len_lt : (k n : Nat) → n < 10 ^ k → (digs n).length ≤ k
  | 0, n, h => by
    have : n = 0 := by simpa using h
    subst this
    simp [digs_zero]
  | k + 1, n, h => by
    rcases Nat.eq_zero_or_pos n with rfl | hn
    · simp [digs_zero]
    · rw [digs_pos hn]
      have : n / 10 < 10 ^ k := by
        rw [Nat.pow_succ] at h
        omega
      have := digs_len_lt k (n / 10) this
      simp only [List.length_cons]
      omega
theorem nv_lt : {l : List Int} → Limbs l → nv l < 10 ^ (10 * l.length)
  | [], _ => by simp [nv]
  | x :: r, h => by
    have ih := nv_lt h.tail
    have hx := h.head
    have e : (10 : Int) ^ (10 * (x :: r).length) = 10 ^ (10 * r.length) * 10000000000 := by
      rw [List.length_cons, Nat.mul_add, Int.pow_add]
      rfl
    rw [e]
    simp only [nv]
    have h0 := nv_nonneg h.tail
    omega
theorem digs_nv {l : List Int} (h : Limbs l) : (digs (nv l).toNat).length ≤ 10 * l.length := by
  apply digs_len_lt
  have h1 := nv_lt h
  have h0 := nv_nonneg h
  have : ((10 ^ (10 * l.length) : Nat) : Int) = (10 : Int) ^ (10 * l.length) := by simp
  omega
def dByte (d : Nat) : UInt8 := UInt8.ofNat (48 + d)
def u8s (l : List Nat) : List AV := l.map fun (d : Nat) => AV.sc (.int .u8 (48 + (d : Int)))
theorem u8s_len (l : List Nat) : (u8s l).length = l.length := by simp [u8s]
theorem u8s_app (a b : List Nat) : u8s (a ++ b) = u8s a ++ u8s b := by simp [u8s]
theorem bytesOf_u8s : {l : List Nat} → (∀ d ∈ l, d < 10) → bytesOf (u8s l) = some (l.map dByte)
  | [], _ => rfl
  | d :: l, h => by
    have ih := bytesOf_u8s (l := l) fun x hx => h x (List.mem_cons_of_mem _ hx)
    have hd := h d (by simp)
    have e : u8s (d :: l) = .sc (.int .u8 (48 + (d : Int))) :: u8s l := rfl
    rw [e, bytesOf]
    have e2 : byteOf (.sc (.int .u8 (48 + (d : Int)))) = some (dByte d) := by
      simp only [byteOf]
      rw [if_pos (by omega)]
      have : ((48 : Int) + (d : Int)).toNat = 48 + d := by omega
      rw [this]
      rfl
    rw [e2, ih]
    rfl
theorem u8s_rev (l : List Nat) : (u8s l).reverse = u8s l.reverse := by simp [u8s]
def decStr (n : Nat) : ByteArray := if n = 0 then ⟨#[48]⟩ else ⟨((digs n).reverse.map dByte).toArray⟩
theorem decStr_size (n : Nat) (h : 0 < n) : (decStr n).size = (digs n).length := by
  unfold decStr
  rw [if_neg (by omega)]
  simp [ByteArray.size]
end Go.Proofs.Bv
