/-
  A part of the proof of CliLettersUptoCardSaid: BvDefs, BvRel.
  Conditions: those that each part names.
-/
import Derived.Test.YtplbncajfignlaaGreatDoorCl01
import Derived.RangeFuncLeaves
import Derived.LoopNIn
set_option linter.unusedSimpArgs false
set_option linter.unusedVariables false
namespace Go.Proofs.Bv
open Go
inductive AV where
  | sc (v : Value)
  | nilS
  | emp
  | psl (cs : List AV) (len : Nat)
  | pptr (cs : List AV) (off : Nat)
  | osl (b off len : Nat)
  | ptr (b off : Nat)
  | fn (f : Fn) (caps : List AV)
  | ifc (t : TypeId) (v : AV)
  | agg (cs : List AV)
  | tup (vs : List AV)
  | junk
  deriving Inhabited
def plain : Value → Bool
  | .bool _ | .int _ _ | .float _ _ | .complex _ _ _ | .string _ => true
  | .pointer none | .map none | .chan none | .nilFunc | .nilIface => true
  | _ => false
def AV.one : AV → Bool
  | .agg _ | .tup _ | .junk => false
  | _ => true
def AV.cells : AV → List AV
  | .agg cs => cs
  | v => [v]
def ofCell : Value → AV
  | .slice none 0 0 => .nilS
  | v => if plain v then .sc v else .junk
def ofV : Value → AV
  | .agg cs => if (cs.toList.map ofCell).all AV.one then .agg (cs.toList.map ofCell) else .junk
  | v => ofCell v
def toVal : AV → Option Value
  | .sc v => some v
  | _ => none
mutual
def AV.pur : AV → Bool
  | .sc _ | .psl _ _ | .pptr _ _ => true
  | .fn (.yield _) _ => false
  | .fn _ caps => purs caps
  | .ifc _ v => AV.pur v
  | .agg cs => purs cs
  | .tup vs => purs vs
  | _ => false
def purs : List AV → Bool
  | [] => true
  | a :: l => AV.pur a && purs l
end
mutual
def AV.flat : AV → Bool
  | .sc _ => true
  | .agg cs => flats cs
  | .tup vs => flats vs
  | _ => false
def flats : List AV → Bool
  | [] => true
  | a :: l => AV.flat a && flats l
end
structure LoopA where
  T : Nat → AV
  nt : Nat
  params : List Tmp
  assign : Code
  body : Code
  jump : Option Code
  open_ : Bool
inductive Blk where
  | cells (cs : List AV) (es : Nat) (fz : Bool)
  | loop (l : LoopA)
abbrev Heap := Nat → Option Blk
def upd {α : Type} (f : Nat → α) (i : Nat) (v : α) : Nat → α := fun j => if j = i then v else f j
def noHeap : Heap := fun _ => none
def cut (cs : List AV) (off n : Nat) : List AV := (cs.drop off).take n
def mapF (f : AV → Option (AV × List Nat)) : List AV → Option (List AV × List Nat)
  | [] => some ([], [])
  | a :: l =>
    match f a, mapF f l with
    | some r, some s => some (r.1 :: s.1, r.2 ++ s.2)
    | _, _ => none
def frz (h : Heap) : Nat → AV → Option (AV × List Nat)
  | 0, _ => none
  | k + 1, a => if a.pur then some (a, []) else
    match a with
    | .nilS => some (.psl [] 0, [])
    | .emp => some (.psl [] 0, [])
    | .osl b off len =>
      match h b with
      | some (.cells cs es _) => if off + len * es ≤ cs.length then (mapF (frz h k) (cut cs off (len * es))).map fun r => (.psl r.1 len, b :: r.2) else none
      | _ => none
    | .ptr b off =>
      match h b with
      | some (.cells cs _ _) => (mapF (frz h k) cs).map fun r => (.pptr r.1 off, b :: r.2)
      | _ => none
    | .fn (.yield _) _ => none
    | .fn f caps => (mapF (frz h k) caps).map fun r => (.fn f r.1, r.2)
    | .ifc t v => (frz h k v).map fun r => (.ifc t r.1, r.2)
    | .agg cs => (mapF (frz h k) cs).map fun r => (.agg r.1, r.2)
    | .tup vs => (mapF (frz h k) vs).map fun r => (.tup r.1, r.2)
    | _ => none
def noBox : AV → Bool
  | .ptr _ _ => false
  | .fn (.yield _) _ => false
  | .fn _ caps => purs caps
  | .ifc _ (.ptr _ _) => false
  | _ => true
def shutBlk : Blk → Blk
  | .cells cs es _ => .cells cs es true
  | b => b
def shutIds (h : Heap) (ids : List Nat) : Heap := fun b => if ids.contains b then (h b).map shutBlk else h b
def szOf (P : Program) (t : TypeId) : Option Nat := (P.info? t).map (·.size)
def aggOf (P : Program) (t : TypeId) : Option Bool := (P.underlying t).map fun | .struct _ | .array _ _ => true | _ => false
def loadA (P : Program) (cs : List AV) (off : Nat) (t : TypeId) : Option AV :=
  match aggOf P t, szOf P t with
  | some true, some s => if off + s ≤ cs.length then some (.agg (cut cs off s)) else none
  | some false, some _ => cs[off]?
  | _, _ => none
def loadAt (P : Program) (h : Heap) (t : TypeId) : AV → Option AV
  | .ptr b off =>
    match h b with
    | some (.cells cs _ _) => loadA P cs off t
    | _ => none
  | .pptr cs off => loadA P cs off t
  | _ => none
def storeA (cs : List AV) (off : Nat) (vs : List AV) : List AV := cs.take off ++ vs ++ cs.drop (off + vs.length)
def pureRun (P : Program) {α : Type} : Sem α → Option α
  | .pure a => some a
  | .program k => pureRun P (k P)
  | _ => none
def scal (v : Value) : Option AV := if plain v then some (.sc v) else none
def readSl (h : Heap) : AV → Option (List AV × Nat)
  | .psl cs len => some (cs, len)
  | .nilS => some ([], 0)
  | .emp => some ([], 0)
  | .osl b off len =>
    match h b with
    | some (.cells cs es _) => if off + len * es ≤ cs.length then some (cut cs off (len * es), len) else none
    | _ => none
  | _ => none
def byteCells (s : ByteArray) : List AV := s.data.toList.map fun b => .sc (.int .u8 b.toNat)
def srcOf (h : Heap) : TypeDesc → AV → Option (List AV × Nat)
  | .string, .sc (.string b) => some (byteCells b, b.size)
  | .slice _, x => readSl h x
  | _, _ => none
def asNat : AV → Option Nat
  | .sc (.int _ n) => if 0 ≤ n then some n.toNat else none
  | _ => none
def byteOf : AV → Option UInt8
  | .sc (.int .u8 n) => if 0 ≤ n ∧ n < 256 then some (UInt8.ofNat n.toNat) else none
  | _ => none
def bytesOf : List AV → Option (List UInt8)
  | [] => some []
  | a :: l =>
    match byteOf a, bytesOf l with
    | some b, some bs => some (b :: bs)
    | _, _ => none
abbrev Out := Option (AV × Heap × Nat)
def vbuiltin (P : Program) (b : Builtin) (ts : List TypeId) (args : List AV) (h : Heap) (n : Nat) : Out :=
  match b, ts, args with
  | .len, [t], [x] =>
    match P.underlying t, x with
    | some .string, .sc (.string s) => some (.sc (.int .i64 s.size), h, n)
    | some (.slice _), .psl _ len | some (.slice _), .osl _ _ len => some (.sc (.int .i64 len), h, n)
    | some (.slice _), .nilS => some (.sc (.int .i64 0), h, n)
    | some (.slice _), .emp => some (.sc (.int .i64 0), h, n)
    | _, _ => none
  | .append, [t, xt], [s, x] =>
    match P.underlying t, P.underlying xt with
    | some (.slice e), some xd =>
      match P.info? e, srcOf h xd x with
      | some i, some (xs, l) =>
        if i.size = 0 ∨ xs.length ≠ l * i.size ∨ (i.zero.map fun z => z.cells.size) ≠ some i.size then none else
        match s with
        | .nilS => if l * i.bytes ≤ 140737488355328 ∧ l ≤ 140737488355328 then (if l = 0 then some (.nilS, h, n) else some (.osl n 0 l, upd h n (some (.cells xs i.size false)), n + 1)) else none
        | .osl b off len =>
          match h b with
          | some (.cells cs es false) =>
            if es = i.size ∧ off + len * es ≤ cs.length ∧ (len + l) * i.bytes ≤ 140737488355328 ∧ len + l ≤ 140737488355328 then
              some (.osl n 0 (len + l), upd (upd h b none) n (some (.cells (cut cs off (len * es) ++ xs) es false)), n + 1)
            else none
          | _ => none
        | _ => none
      | _, _ => none
    | _, _ => none
  | .copy, [t, xt], [d, x] =>
    match P.underlying t, P.underlying xt, d with
    | some (.slice e), some xd, .osl b off len =>
      match P.info? e, srcOf h xd x, h b with
      | some i, some (xs, l), some (.cells cs es false) =>
        if es = i.size ∧ xs.length = l * i.size ∧ off + len * es ≤ cs.length then
          some (.sc (.int .i64 (min l len)), upd h b (some (.cells (storeA cs off (xs.take (min l len * es))) es false)), n)
        else none
      | _, _, _ => none
    | _, _, _ => none
  | .max, _, xs => ((xs.mapM toVal).bind fun vs => (pureRun P (Go.Builtin.max_ #[] 0 vs.toArray)).bind scal).map fun r => (r, h, n)
  | .min, _, xs => ((xs.mapM toVal).bind fun vs => (pureRun P (Go.Builtin.min_ #[] 0 vs.toArray)).bind scal).map fun r => (r, h, n)
  | _, _, _ => none
def fillA (place : Nat → Option (Nat × Nat)) (cells : List AV) : List (Nat × AV) → Option (List AV)
  | [] => some cells
  | (i, v) :: rest =>
    match place i with
    | none => none
    | some (off, size) =>
      if v.cells.length ≠ size ∨ off + v.cells.length > cells.length ∨ !(v.cells.all AV.one) then none
      else fillA place (storeA cells off v.cells) rest
def zeroA (P : Program) (t : TypeId) : Option (List AV) :=
  match (P.info? t).bind (·.zero) with
  | some z => if (ofV z).cells.all AV.one then some (ofV z).cells else none
  | none => none
def rep {α : Type} : Nat → List α → List α
  | 0, _ => []
  | k + 1, l => l ++ rep k l
def vnil : AV → AV → Option Bool
  | .osl _ _ _, .nilS | .nilS, .osl _ _ _ => some false
  | .psl _ (_ + 1), .nilS | .nilS, .psl _ (_ + 1) => some false
  | .nilS, .nilS => some true
  | .emp, .nilS | .nilS, .emp => some false
  | .ptr _ _, .sc (.pointer none) | .sc (.pointer none), .ptr _ _ => some false
  | .pptr _ _, .sc (.pointer none) | .sc (.pointer none), .pptr _ _ => some false
  | .fn _ _, .sc .nilFunc | .sc .nilFunc, .fn _ _ => some false
  | .ifc _ _, .sc .nilIface | .sc .nilIface, .ifc _ _ => some false
  | _, _ => none
def nilDesc : TypeDesc → AV → Bool
  | .slice _, .osl .. | .slice _, .psl .. | .slice _, .nilS | .slice _, .emp => true
  | .pointer _, .ptr .. | .pointer _, .pptr .. | .pointer _, .sc (.pointer none) => true
  | .func .., .fn .. | .func .., .sc .nilFunc => true
  | .interface _, .ifc .. | .interface _, .sc .nilIface => true
  | _, _ => false
def vbin (P : Program) (op : BinOp) (t : TypeId) (xo yo : Operand) (x y : AV) : Option AV :=
  match toVal x, toVal y with
  | some u, some v => (pureRun P (do eqGuard op t xo yo u v; binOp op t u v)).bind scal
  | _, _ =>
    match P.underlying t with
    | some d =>
      match nilDesc d x, vnil x y, op with
      | true, some c, .eql => some (.sc (.bool c))
      | true, some c, .neq => some (.sc (.bool !c))
      | _, _, _ => none
    | none => none
def bnds (len : Nat) (lo hi : Option AV) : Option (Nat × Nat) :=
  match (match hi with | some a => asNat a | none => some len), (match lo with | some a => asNat a | none => some 0) with
  | some h, some l => if l ≤ h ∧ h ≤ len then some (l, h) else none
  | _, _ => none
def vop (P : Program) (ρ : Operand → AV) (h : Heap) (n : Nat) : Op → Out
  | .move x | .assign x => some (ρ x, h, n)
  | .pick c a b =>
    match ρ c with
    | .sc (.bool t) => some (if t then ρ a else ρ b, h, n)
    | _ => none
  | .alloc e => (zeroA P e).map fun z => (.ptr n 0, upd h n (some (.cells z 0 false)), n + 1)
  | .box _ x => if (ρ x).cells.all AV.one then some (.ptr n 0, upd h n (some (.cells (ρ x).cells 0 false)), n + 1) else none
  | .build t parts =>
    match P.underlying t, zeroA P t with
    | some (.struct fs), some z =>
      match fs.toList.mapM fun f => (szOf P f.type).map fun s => (f.offset, s) with
      | some places => (fillA (places[·]?) z (parts.toList.map fun p => (p.1, ρ p.2))).map fun cs => (.agg cs, h, n)
      | none => none
    | some (.array _ e), some z =>
      match szOf P e with
      | some s => (fillA (fun i => some (i * s, s)) z (parts.toList.map fun p => (p.1, ρ p.2))).map fun cs => (.agg cs, h, n)
      | none => none
    | _, _ => none
  | .buildSlice t len parts =>
    match P.underlying t with
    | some (.slice e) =>
      match szOf P e, zeroA P e with
      | some s, some z =>
        if len * s ≤ 2 ^ 24 ∧ 0 < s ∧ z.length = s then
          (fillA (fun i => some (i * s, s)) (rep len z) (parts.toList.map fun p => (p.1, ρ p.2))).map fun cs => (.osl n 0 len, upd h n (some (.cells cs s false)), n + 1)
        else none
      | _, _ => none
    | _ => none
  | .load t x => (loadAt P h t (ρ x)).map fun v => (v, h, n)
  | .store t x v =>
    match ρ x, szOf P t with
    | .ptr b off, some s =>
      match h b with
      | some (.cells cs es false) =>
        if (ρ v).cells.length = s ∧ off + s ≤ cs.length ∧ (ρ v).cells.all AV.one then some (.junk, upd h b (some (.cells (storeA cs off (ρ v).cells) es false)), n) else none
      | _ => none
    | _, _ => none
  | .nilCheck x =>
    match ρ x with
    | .ptr b o => some (.ptr b o, h, n)
    | .pptr cs o => some (.pptr cs o, h, n)
    | .fn (.func f) caps => some (.fn (.func f) caps, h, n)
    | _ => none
  | .binOp op t x y _ => (vbin P op t x y (ρ x) (ρ y)).map fun v => (v, h, n)
  | .unOp op _ x => ((toVal (ρ x)).bind fun u => (pureRun P (Op.unary op u)).bind scal).map fun v => (v, h, n)
  | .convert src dst x =>
    match ρ x with
    | .sc (.string s) =>
      match P.underlying src, P.underlying dst with
      | some .string, some .string => some (.sc (.string s), h, n)
      | some .string, some (.slice e) =>
        match P.underlying e with
        | some (.int .u8) => some (.psl (byteCells s) s.size, h, n)
        | _ => none
      | _, _ => none
    | .sc u => ((pureRun P (convert src dst u)).bind scal).map fun v => (v, h, n)
    | x =>
      match P.underlying src, P.underlying dst with
      | some (.slice e), some .string =>
        match P.underlying e, readSl h x with
        | some (.int .u8), some (cs, l) => if cs.length = l then (bytesOf cs).map fun bs => (.sc (.string ⟨bs.toArray⟩), h, n) else none
        | _, _ => none
      | _, _ => none
  | .makeFunc f first caps =>
    if first.size = 0 then
      match f with
      | .yield _ => none
      | f => some (.fn f (caps.toList.map ρ), h, n)
    else none
  | .makeSlice t l c =>
    match P.underlying t, asNat (ρ l), asNat (ρ c) with
    | some (.slice e), some l, some c =>
      match P.info? e, zeroA P e with
      | some i, some z => if l ≤ c ∧ c * i.bytes ≤ 140737488355328 ∧ c ≤ 140737488355328 ∧ z.length = i.size ∧ 0 < i.size then some (.osl n 0 l, upd h n (some (.cells (rep l z) i.size false)), n + 1) else none
      | _, _ => none
    | _, _, _ => none
  | .slice t x lo hi mx =>
    if mx.isSome then none else
    match P.underlying t, ρ x with
    | some .string, .sc (.string s) => (bnds s.size (lo.map ρ) (hi.map ρ)).map fun b => (.sc (.string (s.extract b.1 b.2)), h, n)
    | some (.slice e), .psl cs len =>
      match szOf P e, bnds len (lo.map ρ) (hi.map ρ) with
      | some s, some (l, u) => some (.psl (cut cs (l * s) ((u - l) * s)) (u - l), h, n)
      | _, _ => none
    | some (.slice e), .osl b off len =>
      match szOf P e, bnds len (lo.map ρ) (hi.map ρ), h b with
      | some s, some (l, u), some (.cells _ es _) => if s = es then (if l = 0 ∨ l < u then some (.osl b (off + l * s) (u - l), h, n) else some (.psl [] 0, h, n)) else none
      | _, _, _ => none
    | some (.slice e), .nilS =>
      match szOf P e, bnds 0 (lo.map ρ) (hi.map ρ) with
      | some _, some _ => some (.nilS, h, n)
      | _, _ => none
    | _, _ => none
  | .fieldAddr s x f =>
    match P.underlying s with
    | some (.struct fs) =>
      match fs[f]? with
      | some fd =>
        match szOf P fd.type with
        | some (_ + 1) =>
          match ρ x with
          | .ptr b off => some (.ptr b (off + fd.offset), h, n)
          | .pptr cs off => some (.pptr cs (off + fd.offset), h, n)
          | _ => none
        | _ => none
      | none => none
    | _ => none
  | .field s x f =>
    match P.underlying s, ρ x with
    | some (.struct fs), .agg cs =>
      match fs[f]? with
      | some fd => (loadA P cs fd.offset fd.type).map fun v => (v, h, n)
      | none => none
    | _, _ => none
  | .indexAddr t x ix =>
    match asNat (ρ ix), P.underlying t with
    | some i, some (.slice e) =>
      match szOf P e, ρ x with
      | some s, .psl cs len => if i < len then some (.pptr cs (i * s), h, n) else none
      | some s, .osl b off len => if i < len then some (.ptr b (off + i * s), h, n) else none
      | _, _ => none
    | some i, some (.array len e) =>
      match szOf P e, ρ x with
      | some s, .ptr b off => if i < len then some (.ptr b (off + i * s), h, n) else none
      | some s, .pptr cs off => if i < len then some (.pptr cs (off + i * s), h, n) else none
      | _, _ => none
    | _, _ => none
  | .index t x ix =>
    match asNat (ρ ix), P.underlying t, ρ x with
    | some i, some .string, .sc (.string s) => (s.data[i]?).map fun b => (.sc (.int .u8 b.toNat), h, n)
    | some i, some (.array len e), .agg cs =>
      match szOf P e with
      | some s => if i < len then (loadA P cs (i * s) e).map fun v => (v, h, n) else none
      | none => none
    | _, _, _ => none
  | .extract t i =>
    match ρ t with
    | .tup vs => (vs[i]?).map fun v => (v, h, n)
    | _ => none
  | .call { callee := .builtin b, args, argTypes } => vbuiltin P b argTypes.toList (args.toList.map ρ) h n
  | _ => none
structure Cfg where
  P : Program
  G : Nat → Option (List AV)
  inl : FuncId → Bool
  orc : FuncId → Option (List AV → Option AV)
  own : FuncId → Bool
abbrev CallF := AV → List AV → Heap → Nat → Out
inductive Ex where
  | norm
  | exit (id : Nat)
  | ret
structure St where
  T : Nat → AV
  h : Heap
  n : Nat
def val (C : Cfg) (T : Nat → AV) : Operand → AV
  | .tmp t => T t
  | .const v => ofV v
  | .global g => match C.G g with | some cs => .pptr cs 0 | none => .junk
  | .func f => .fn (.func f) []
def putT (nt : Nat) (T : Nat → AV) (dst : Option Tmp) (v : AV) : Option (Nat → AV) :=
  match dst with
  | none => some T
  | some d => if d < nt then some (upd T d v) else none
def goes (ops : Array Oper) (T : Nat → AV) (o : Oper) : Option Bool :=
  match o.guard with
  | none => some true
  | some (j, b) =>
    match ((ops[j]?).bind (·.dst)).map T with
    | some (.sc (.bool c)) => some (c == b)
    | some (.tup []) => some false
    | _ => none
def vstep (C : Cfg) (call : CallF) (ρ : Operand → AV) (h : Heap) (n : Nat) : Op → Out
  | .call { callee := .value f, args, argTypes := _ } => call (ρ f) (args.toList.map ρ) h n
  | op => vop C.P ρ h n op
def vops (C : Cfg) (call : CallF) (nt : Nat) (ops : Array Oper) : List Oper → St → Option St
  | [], s => some s
  | o :: l, s =>
    match goes ops s.T o with
    | some true =>
      match vstep C call (val C s.T) s.h s.n o.op with
      | some (v, h, n) => if s.n ≤ n then (putT nt s.T o.dst v).bind fun T => vops C call nt ops l ⟨T, h, n⟩ else none
      | none => none
    | some false => (putT nt s.T o.dst (.tup [])).bind fun T => vops C call nt ops l ⟨T, s.h, s.n⟩
    | none => none
def iter (f : St → Option (Ex × St)) : Nat → St → Option (Ex × St)
  | 0, _ => none
  | k + 1, s =>
    match f s with
    | some (.norm, s) => iter f k s
    | r => r
def setParams (nt : Nat) : List Tmp → List AV → (Nat → AV) → Option (Nat → AV)
  | [], [], T => some T
  | t :: ts, a :: as, T => if t < nt then setParams nt ts as (upd T t a) else none
  | _, _, _ => none
def codeOk (nt : Nat) : Code → Bool
  | .region _ ops _ => ops.all fun o => match o.dst with | some d => decide (d < nt) | none => true
  | .seq a b | .cond _ a b => codeOk nt a && codeOk nt b
  | .block _ c | .loop c => codeOk nt c
  | .rangeFunc _ _ a b => codeOk nt a && codeOk nt b
  | _ => true
abbrev FcF := FuncId → List AV → Heap → Nat → Out
def vcode (C : Cfg) (call : CallF) (fc : FcF) (dr : Nat → Array Oper → St → Option St) (k nt : Nat) (rd : Bool) : Code → St → Option (Ex × St)
  | .skip, s | .label _, s => some (.norm, s)
  | .region _ ops d, s => (if d then dr nt ops s else vops C call nt ops ops.toList s).map fun s => (.norm, s)
  | .seq a b, s =>
    match vcode C call fc dr k nt rd a s with
    | some (.norm, s) => vcode C call fc dr k nt rd b s
    | r => r
  | .cond c a b, s =>
    match val C s.T c with
    | .sc (.bool t) => if t then vcode C call fc dr k nt rd a s else vcode C call fc dr k nt rd b s
    | _ => none
  | .block id c, s =>
    match vcode C call fc dr k nt rd c s with
    | some (.exit j, s) => some (if j = id then .norm else .exit j, s)
    | r => r
  | .loop c, s => iter (vcode C call fc dr k nt rd c) k s
  | .exit id, s => some (.exit id, s)
  | .ret, s => some (.ret, s)
  | .rangeFunc g ps assign body, s =>
    if rd then none else
    match (match val C s.T g with
      | .fn (.func f) caps => fc f (.fn (.yield s.n) [] :: caps) (upd s.h s.n (some (.loop ⟨s.T, nt, ps.toList, assign, body, none, true⟩))) (s.n + 1)
      | _ => none) with
    | some (_, h, n) =>
      if n < s.n + 1 then none else
      match h s.n with
      | some (.loop l) =>
        match l.jump, l.open_ with
        | none, true => some (.norm, ⟨s.T, upd h s.n none, n⟩)
        | some .ret, _ => some (.ret, ⟨s.T, upd h s.n none, n⟩)
        | some (.exit id), _ => some (.exit id, ⟨s.T, upd h s.n none, n⟩)
        | _, _ => none
      | _ => none
    | none => none
  | _, _ => none
theorem orF {a b : Bool} (h : (a || b) = false) : a = false ∧ b = false := by cases a <;> cases b <;> simp_all
def ret1 (C : Cfg) (T : Nat → AV) (h : Heap) : ResultVar → Option AV
  | .tmp t => some (T t)
  | .cell a t => loadAt C.P h t (T a)
def retsA (C : Cfg) (T : Nat → AV) (h : Heap) : List ResultVar → Option (List AV)
  | [] => some []
  | r :: l =>
    match ret1 C T h r, retsA C T h l with
    | some v, some vs => some (v :: vs)
    | _, _ => none
def one1 : List AV → AV
  | [v] => v
  | vs => .tup vs
def argsT (args : List AV) : Nat → AV := fun i => (args[i]?).getD .junk
def fcall (C : Cfg) (call : CallF) (fc : FcF) (dr : Nat → Array Oper → St → Option St) (k : Nat) (f : FuncId) (args : List AV) (h : Heap) (n : Nat) : Out :=
  match C.P.funcs[f]? with
  | some fn =>
    match fn.body with
    | some c =>
      if args.length ≤ fn.ntmps ∧ codeOk fn.ntmps c = true then
        match vcode C call fc dr k fn.ntmps false c ⟨argsT args, h, n⟩ with
        | some (.norm, s) | some (.ret, s) => (retsA C s.T s.h fn.results.toList).map fun vs => (one1 vs, s.h, s.n)
        | _ => none
      else none
    | none => none
  | none => none
def vyield (C : Cfg) (call : CallF) (fc : FcF) (dr : Nat → Array Oper → St → Option St) (k : Nat) (l : Nat) (args : List AV) (h : Heap) (n : Nat) : Out :=
  match h l with
  | some (.loop L) =>
    if L.open_ && codeOk L.nt L.assign && codeOk L.nt L.body then
      match setParams L.nt L.params args L.T with
      | some T =>
        match vcode C call fc dr k L.nt true L.assign ⟨T, h, n⟩ with
        | some (.norm, s) =>
          match s.h l with
          | some (.loop L') =>
            if L'.open_ && L'.jump.isNone then
              match vcode C call fc dr k L.nt true L.body ⟨s.T, upd s.h l (some (.loop { L' with open_ := false })), s.n⟩ with
              | some (e, s) =>
                match s.h l with
                | some (.loop L'') =>
                  match e with
                  | .norm => some (.sc (.bool true), upd s.h l (some (.loop { L'' with open_ := true, jump := none })), s.n)
                  | .ret => some (.sc (.bool false), upd s.h l (some (.loop { L'' with open_ := false, jump := some .ret })), s.n)
                  | .exit id => some (.sc (.bool false), upd s.h l (some (.loop { L'' with open_ := false, jump := some (.exit id) })), s.n)
                | _ => none
              | none => none
            else none
          | _ => none
        | _ => none
      | none => none
    else none
  | _ => none
def pcall (fc : FcF) (f : FuncId) (args : List AV) : Option AV :=
  match fc f args noHeap 0 with
  | some (r, h, _) => (frz h 64 r).map (·.1)
  | none => none
def orcTry (C : Cfg) (f : FuncId) (args : List AV) (h : Heap) : Option (AV × List Nat) :=
  match C.orc f with
  | some g =>
    if (C.inl f && !purs args) = true then none else
    match (if args.all noBox then mapF (frz h 64) args else none) with
    | some (as, ids) => (g as).map fun r => (r, ids)
    | none => none
  | none => none
mutual
def AV.sh (k : Nat) : AV → AV
  | .osl b off len => .osl (k + b) off len
  | .ptr b off => .ptr (k + b) off
  | .fn (.yield l) caps => .fn (.yield (k + l)) caps
  | .fn f caps => .fn f (shs k caps)
  | .ifc t v => .ifc t (AV.sh k v)
  | .agg cs => .agg (shs k cs)
  | .tup vs => .tup (shs k vs)
  | v => v
def shs (k : Nat) : List AV → List AV
  | [] => []
  | a :: l => AV.sh k a :: shs k l
end
def shBlk (k : Nat) : Blk → Option Blk
  | .cells cs es fz => some (.cells (shs k cs) es fz)
  | .loop _ => none
def joinH (h : Heap) (k n1 : Nat) (h1 : Heap) : Heap := fun b => if k ≤ b ∧ b < k + n1 then (h1 (b - k)).bind (shBlk k) else h b
mutual
def AV.cl : AV → Bool
  | .sc _ | .nilS | .emp | .osl _ _ _ | .ptr _ _ => true
  | .psl [] 0 => true
  | .ifc _ v => AV.cl v
  | .agg cs => cls cs
  | .tup vs => cls vs
  | _ => false
def cls : List AV → Bool
  | [] => true
  | a :: l => AV.cl a && cls l
end
def Closed (r : AV) (h : Heap) : Prop := r.cl = true ∧ ∀ b cs es fz, h b = some (.cells cs es fz) → fz = false ∧ cls cs = true
open Classical in
noncomputable def shutC (h : Heap) (ids : List Nat) (r : AV) (h1 : Heap) : Heap := if Closed r h1 then h else shutIds h ids
noncomputable def anycall (C : Cfg) (fc : FcF) (f : FuncId) (args : List AV) (h : Heap) (n : Nat) : Out :=
  match orcTry C f args h with
  | some (r, ids) => some (r, if r.flat then h else shutIds h ids, n)
  | none =>
    if C.inl f then fc f args h n
    else
      match (if args.all noBox then mapF (frz h 64) args else none) with
      | some (as, ids) =>
        if C.own f then
          match fc f as noHeap 0 with
          | some (r, h1, n1) => some (r.sh n, joinH (shutC h ids r h1) n n1 h1, n + n1)
          | none => none
        else
          match pcall fc f as with
          | some r => some (r, if r.flat then h else shutIds h ids, n)
          | none => none
      | none => fc f args h n
structure Lv where
  fc : FcF
  fy : Nat → List AV → Heap → Nat → Out
noncomputable def callOf (C : Cfg) (L : Lv) : CallF := fun f args h n =>
  match f with
  | .fn (.func f) caps => anycall C L.fc f (args ++ caps) h n
  | .fn (.yield l) _ => L.fy l args h n
  | _ => none
def touchB (n n' : Nat) : Builtin → List AV → List Nat
  | .append, .osl b _ _ :: _ => b :: List.range' n (n' - n)
  | .copy, .osl b _ _ :: _ => [b]
  | _, _ => List.range' n (n' - n)
def touch (ρ : Operand → AV) (n n' : Nat) : Op → List Nat
  | .store _ x _ => match ρ x with | .ptr b _ => [b] | _ => []
  | .call { callee := .builtin bi, args, argTypes := _ } => touchB n n' bi (args.toList.map ρ)
  | _ => List.range' n (n' - n)
mutual
def AV.roots : AV → List Nat
  | .osl b _ _ => [b]
  | .agg cs => rootss cs
  | .tup vs => rootss vs
  | _ => []
def rootss : List AV → List Nat
  | [] => []
  | a :: l => AV.roots a ++ rootss l
end
def cutH (ids : List Nat) (h : Heap) : Heap := fun b => if ids.contains b then h b else none
noncomputable def dcall (C : Cfg) (fc : FcF) (f : FuncId) (args : List AV) (h : Heap) (n : Nat) : Option (AV × List Nat × Heap × Nat) :=
  match orcTry C f args h with
  | some (r, ids) => some (r, if r.flat then [] else ids, if r.flat then h else shutIds h ids, n)
  | none =>
    if C.inl f then
      if purs args then
        match fc f args noHeap n with
        | some (v, h', n') => some (v, List.range' n (n' - n), fun b => if n ≤ b ∧ b < n' then h' b else h b, n')
        | none => none
      else
        match fc f args (cutH (rootss args) h) n with
        | some (v, h', n') => some (v, rootss args ++ List.range' n (n' - n), fun b => if (rootss args).contains b = true ∨ (n ≤ b ∧ b < n') then h' b else h b, n')
        | none => none
    else
      match (if args.all noBox then mapF (frz h 64) args else none) with
      | some (as, ids) =>
        if C.own f then
          match fc f as noHeap 0 with
          | some (r, h1, n1) => some (r.sh n, ids ++ List.range' n n1, joinH (shutC h ids r h1) n n1 h1, n + n1)
          | none => none
        else
          match pcall fc f as with
          | some r => some (r, if r.flat then [] else ids, if r.flat then h else shutIds h ids, n)
          | none => none
      | none => none
noncomputable def dstep (C : Cfg) (fc : FcF) (ρ : Operand → AV) (h : Heap) (n : Nat) : Op → Option (AV × List Nat × Heap × Nat)
  | .call { callee := .value f, args, argTypes := _ } =>
    match ρ f with
    | .fn (.func f) caps => dcall C fc f (args.toList.map ρ ++ caps) h n
    | _ => none
  | op => (vop C.P ρ h n op).map fun r => (r.1, touch ρ n r.2.2 op, r.2.1, r.2.2)
structure DRec where
  pre : List Nat
  dst : Option Tmp
  v : AV
  ups : List (Nat × Option Blk)
  lo : Nat
  hi : Nat
def upsAt : List (Nat × Option Blk) → Nat → Option (Option Blk)
  | [], _ => none
  | (i, x) :: l, b => if b = i then some x else upsAt l b
def hAt (h0 : Heap) (on : Nat → Bool) : List (Nat × DRec) → Heap
  | [], b => h0 b
  | (j, r) :: l, b => if on j then (match upsAt r.ups b with | some x => x | none => hAt h0 on l b) else hAt h0 on l b
def hHide (hide : List Nat) (h : Heap) : Heap := fun b => if hide.contains b then none else h b
def tAt (T0 : Nat → AV) (all : List Nat) (on : Nat → Bool) : List (Nat × DRec) → Nat → AV
  | [], t => if all.contains t then .junk else T0 t
  | (j, r) :: l, t => if on j && r.dst == some t then r.v else tAt T0 all on l t
def bindOn (o : Oper) : List Nat := (o.after.toList.filter (Region.binds .any)).map (·.on)
def recAt : List (Nat × DRec) → Nat → Option DRec
  | [], _ => none
  | (j, r) :: l, i => if i = j then some r else recAt l i
def nub : List Nat → List Nat
  | [] => []
  | a :: l => if (nub l).contains a then nub l else a :: nub l
theorem mem_nub {x : Nat} : {l : List Nat} → (x ∈ nub l ↔ x ∈ l)
  | [] => by simp [nub]
  | a :: l => by
    have ih := mem_nub (x := x) (l := l)
    simp only [nub]
    split
    · rename_i h
      rw [ih]
      constructor
      · exact fun h => List.mem_cons_of_mem _ h
      · intro hx
        rcases List.mem_cons.1 hx with rfl | hx
        · exact (mem_nub (l := l)).1 (by simpa using h)
        · exact hx
    · simp only [List.mem_cons, ih]
def preOf (recs : List (Nat × DRec)) (bo : List Nat) : List Nat := nub (bo ++ bo.flatMap fun j => match recAt recs j with | some r => r.pre | none => [])
def openAt (ops : Array Oper) (i : Nat) : List Nat := ops.toList.filterMap fun o => if (bindOn o).contains i then none else o.dst
noncomputable def dgo (C : Cfg) (fc : FcF) (ops : Array Oper) (all : Nat → List Nat) (T0 : Nat → AV) (h0 : Heap) (hides : Nat → List Nat) : List Oper → Nat → List (Nat × DRec) → Nat → Option (List (Nat × DRec) × Nat)
  | [], _, recs, n => some (recs, n)
  | o :: l, i, recs, n =>
    if (bindOn o).all fun j => decide (j < i) then
      match goes ops (tAt T0 (all i) (fun j => (preOf recs (bindOn o)).contains j) recs) o with
      | some true =>
        match dstep C fc (val C (tAt T0 (all i) (fun j => (preOf recs (bindOn o)).contains j) recs)) (hHide (hides i) (hAt h0 (fun j => (preOf recs (bindOn o)).contains j) recs)) n o.op with
        | some (v, tch, h', n') =>
          if n ≤ n' ∧ (tch.all fun b => !(hides i).contains b) = true then
            dgo C fc ops all T0 h0 hides l (i + 1) ((i, ⟨preOf recs (bindOn o), o.dst, v, tch.map fun b => (b, h' b), n, n'⟩) :: recs) n'
          else none
        | none => none
      | some false => dgo C fc ops all T0 h0 hides l (i + 1) ((i, ⟨preOf recs (bindOn o), o.dst, .tup [], [], n, n⟩) :: recs) n
      | none => none
    else none
def incs (recs : List (Nat × DRec)) (i : Nat) : List Nat :=
  match recAt recs i with
  | some ri => recs.flatMap fun x => if x.1 = i ∨ ri.pre.contains x.1 ∨ x.2.pre.contains i then [] else x.2.ups.map (·.1)
  | none => []
def nodupB : List Nat → Bool
  | [] => true
  | a :: l => !l.contains a && nodupB l
noncomputable def vdraw (C : Cfg) (fc : FcF) (_nt : Nat) (ops : Array Oper) (s : St) : Option St :=
  let all := ops.toList.filterMap (·.dst)
  if nodupB all then
    match dgo C fc ops (openAt ops) s.T s.h (fun _ => []) ops.toList 0 [] s.n with
    | some (r1, _) =>
      match dgo C fc ops (openAt ops) s.T s.h (incs r1) ops.toList 0 [] s.n with
      | some (r2, n') =>
        if (r2.all fun x => (incs r2 x.1).all fun b => (incs r1 x.1).contains b) then
          some ⟨tAt s.T [] (fun _ => true) r2, hAt s.h (fun _ => true) r2, n'⟩
        else none
      | none => none
    | none => none
  else none
noncomputable def lv (C : Cfg) : Nat → Lv
  | 0 => ⟨fun _ _ _ _ => none, fun _ _ _ _ => none⟩
  | k + 1 => ⟨fcall C (callOf C (lv C k)) (lv C k).fc (vdraw C (lv C k).fc) k, vyield C (callOf C (lv C k)) (lv C k).fc (vdraw C (lv C k).fc) k⟩
end Go.Proofs.Bv
namespace Go.Proofs.Bv
open Go
structure MB where
  rb : Nat
  base : Nat
  top : Nat
  es : Nat
abbrev AMap := Nat → Option MB
def noMap : AMap := fun _ => none
def cellsAt (w : World) (blk off : Nat) (us : List Value) : Prop := ∀ i, i < us.length → w.cell? ⟨blk, off + i, none⟩ = us[i]?
mutual
def RV (Z : Nat → Prop) (w : World) : AV → AMap → Value → Prop
  | .sc u, _, v => v = u ∧ plain u = true
  | .nilS, _, v => v = .slice none 0 0
  | .emp, _, v => ∃ a cap, v = .slice (some a) 0 cap
  | .psl cs len, _, v => ∃ a cap, v = .slice a len cap ∧ ((len = 0 ∧ cs = [] ∧ (a = none → cap = 0)) ∨ (len ≤ cap ∧ ∃ blk off us, a = some ⟨blk, off, none⟩ ∧ Z blk ∧ cellsAt w blk off us ∧ RVs Z w cs noMap us))
  | .pptr cs off, _, v => ∃ blk base us, v = .pointer (some ⟨blk, base + off, none⟩) ∧ Z blk ∧ cellsAt w blk base us ∧ RVs Z w cs noMap us
  | .osl b off len, m, v => ∃ mb cap, m b = some mb ∧ v = .slice (some ⟨mb.rb, mb.base + off, none⟩) len cap ∧ len ≤ cap ∧ mb.base + off + cap * mb.es ≤ mb.top
  | .ptr b off, m, v => ∃ mb, m b = some mb ∧ v = .pointer (some ⟨mb.rb, mb.base + off, none⟩)
  | .fn (.yield l) _, m, v => ∃ mb, m l = some mb ∧ v = .func (.yield mb.rb) #[] #[]
  | .fn f caps, m, v => ∃ us, v = .func f #[] us.toArray ∧ RVl Z w caps m us
  | .ifc t a, m, v => ∃ u, v = .iface t u ∧ RV Z w a m u
  | .agg cs, m, v => ∃ us, v = .agg us.toArray ∧ RVs Z w cs m us
  | .tup vs, m, v => ∃ us, v = .tuple us.toArray ∧ RVl Z w vs m us
  | .junk, _, _ => True
def RVs (Z : Nat → Prop) (w : World) : List AV → AMap → List Value → Prop
  | [], _, us => us = []
  | a :: l, m, us => ∃ u r, us = u :: r ∧ a.one = true ∧ RV Z w a m u ∧ RVs Z w l m r
def RVl (Z : Nat → Prop) (w : World) : List AV → AMap → List Value → Prop
  | [], _, us => us = []
  | a :: l, m, us => ∃ u r, us = u :: r ∧ RV Z w a m u ∧ RVl Z w l m r
end
section mono
variable {Z Z' : Nat → Prop} {w w' : World}
theorem cellsAt_mono {blk off : Nat} {us : List Value} (hw : w'.heap[blk]? = w.heap[blk]?) (h : cellsAt w blk off us) : cellsAt w' blk off us := by
  intro i hi
  rw [← h i hi]
  simp only [World.cell?, hw]
mutual
theorem RV_mono (hZ : ∀ r, Z r → Z' r) (hw : ∀ r, Z r → w'.heap[r]? = w.heap[r]?) : (a : AV) → {m m' : AMap} → {v : Value} → (∀ b x, m b = some x → m' b = some x) → RV Z w a m v → RV Z' w' a m' v
  | .sc _, _, _, _, _, h => by simpa only [RV] using h
  | .nilS, _, _, _, _, h => by simpa only [RV] using h
  | .emp, _, _, _, _, h => by simpa only [RV] using h
  | .psl cs len, _, _, _, _, h => by
    simp only [RV] at h ⊢
    obtain ⟨a, cap, e, h⟩ := h
    refine ⟨a, cap, e, h.imp id ?_⟩
    rintro ⟨hl, blk, off, us, e, hz, hc, hr⟩
    exact ⟨hl, blk, off, us, e, hZ _ hz, cellsAt_mono (hw _ hz) hc, RVs_mono hZ hw cs (fun _ _ h => h) hr⟩
  | .pptr cs off, _, _, _, _, h => by
    simp only [RV] at h ⊢
    obtain ⟨blk, base, us, e, hz, hc, hr⟩ := h
    exact ⟨blk, base, us, e, hZ _ hz, cellsAt_mono (hw _ hz) hc, RVs_mono hZ hw cs (fun _ _ h => h) hr⟩
  | .osl b off len, _, _, _, hm, h => by
    simp only [RV] at h ⊢
    obtain ⟨mb, cap, e, h⟩ := h
    exact ⟨mb, cap, hm _ _ e, h⟩
  | .ptr b off, _, _, _, hm, h => by
    simp only [RV] at h ⊢
    obtain ⟨mb, e, h⟩ := h
    exact ⟨mb, hm _ _ e, h⟩
  | .fn f caps, _, _, _, hm, h => by
    cases f <;> simp only [RV] at h ⊢
    case yield =>
      obtain ⟨mb, e, h⟩ := h
      exact ⟨mb, hm _ _ e, h⟩
    all_goals
      obtain ⟨us, e, h⟩ := h
      exact ⟨us, e, RVl_mono hZ hw caps hm h⟩
  | .ifc t a, _, _, _, hm, h => by
    simp only [RV] at h ⊢
    obtain ⟨u, e, h⟩ := h
    exact ⟨u, e, RV_mono hZ hw a hm h⟩
  | .agg cs, _, _, _, hm, h => by
    simp only [RV] at h ⊢
    obtain ⟨us, e, h⟩ := h
    exact ⟨us, e, RVs_mono hZ hw cs hm h⟩
  | .tup vs, _, _, _, hm, h => by
    simp only [RV] at h ⊢
    obtain ⟨us, e, h⟩ := h
    exact ⟨us, e, RVl_mono hZ hw vs hm h⟩
  | .junk, _, _, _, _, _ => by simp only [RV]
theorem RVs_mono (hZ : ∀ r, Z r → Z' r) (hw : ∀ r, Z r → w'.heap[r]? = w.heap[r]?) : (l : List AV) → {m m' : AMap} → {us : List Value} → (∀ b x, m b = some x → m' b = some x) → RVs Z w l m us → RVs Z' w' l m' us
  | [], _, _, _, _, h => by simpa only [RVs] using h
  | a :: l, _, _, _, hm, h => by
    simp only [RVs] at h ⊢
    obtain ⟨u, r, e, h1, h2, h3⟩ := h
    exact ⟨u, r, e, h1, RV_mono hZ hw a hm h2, RVs_mono hZ hw l hm h3⟩
theorem RVl_mono (hZ : ∀ r, Z r → Z' r) (hw : ∀ r, Z r → w'.heap[r]? = w.heap[r]?) : (l : List AV) → {m m' : AMap} → {us : List Value} → (∀ b x, m b = some x → m' b = some x) → RVl Z w l m us → RVl Z' w' l m' us
  | [], _, _, _, _, h => by simpa only [RVl] using h
  | a :: l, _, _, _, hm, h => by
    simp only [RVl] at h ⊢
    obtain ⟨u, r, e, h2, h3⟩ := h
    exact ⟨u, r, e, RV_mono hZ hw a hm h2, RVl_mono hZ hw l hm h3⟩
end
mutual
theorem RV_pur : (a : AV) → {m : AMap} → (m' : AMap) → {v : Value} → a.pur = true → RV Z w a m v → RV Z w a m' v
  | .sc _, _, _, _, _, h => by simpa only [RV] using h
  | .nilS, _, _, _, hp, _ => by simp [AV.pur] at hp
  | .emp, _, _, _, hp, _ => by simp [AV.pur] at hp
  | .psl cs len, _, _, _, _, h => by simpa only [RV] using h
  | .pptr cs off, _, _, _, _, h => by simpa only [RV] using h
  | .osl b off len, _, _, _, hp, _ => by simp [AV.pur] at hp
  | .ptr b off, _, _, _, hp, _ => by simp [AV.pur] at hp
  | .fn f caps, _, _, _, hp, h => by
    cases f <;> simp only [RV] at h ⊢ <;> simp only [AV.pur] at hp
    case yield => cases hp
    all_goals
      obtain ⟨us, e, h⟩ := h
      exact ⟨us, e, RVl_pur caps _ hp h⟩
  | .ifc t a, _, _, _, hp, h => by
    simp only [AV.pur] at hp
    simp only [RV] at h ⊢
    obtain ⟨u, e, h⟩ := h
    exact ⟨u, e, RV_pur a _ hp h⟩
  | .agg cs, _, _, _, hp, h => by
    simp only [AV.pur] at hp
    simp only [RV] at h ⊢
    obtain ⟨us, e, h⟩ := h
    exact ⟨us, e, RVs_pur cs _ hp h⟩
  | .tup vs, _, _, _, hp, h => by
    simp only [AV.pur] at hp
    simp only [RV] at h ⊢
    obtain ⟨us, e, h⟩ := h
    exact ⟨us, e, RVl_pur vs _ hp h⟩
  | .junk, _, _, _, hp, _ => by simp [AV.pur] at hp
theorem RVs_pur : (l : List AV) → {m : AMap} → (m' : AMap) → {us : List Value} → purs l = true → RVs Z w l m us → RVs Z w l m' us
  | [], _, _, _, _, h => by simpa only [RVs] using h
  | a :: l, _, _, _, hp, h => by
    simp only [purs, Bool.and_eq_true] at hp
    simp only [RVs] at h ⊢
    obtain ⟨u, r, e, h1, h2, h3⟩ := h
    exact ⟨u, r, e, h1, RV_pur a _ hp.1 h2, RVs_pur l _ hp.2 h3⟩
theorem RVl_pur : (l : List AV) → {m : AMap} → (m' : AMap) → {us : List Value} → purs l = true → RVl Z w l m us → RVl Z w l m' us
  | [], _, _, _, _, h => by simpa only [RVl] using h
  | a :: l, _, _, _, hp, h => by
    simp only [purs, Bool.and_eq_true] at hp
    simp only [RVl] at h ⊢
    obtain ⟨u, r, e, h2, h3⟩ := h
    exact ⟨u, r, e, RV_pur a _ hp.1 h2, RVl_pur l _ hp.2 h3⟩
end
mutual
theorem RV_flat (w' : World) (Z' : Nat → Prop) : (a : AV) → {m : AMap} → (m' : AMap) → {v : Value} → a.flat = true → RV Z w a m v → RV Z' w' a m' v
  | .sc _, _, _, _, _, h => by simpa only [RV] using h
  | .nilS, _, _, _, hp, _ => by simp [AV.flat] at hp
  | .emp, _, _, _, hp, _ => by simp [AV.flat] at hp
  | .psl cs len, _, _, _, hp, _ => by simp [AV.flat] at hp
  | .pptr cs off, _, _, _, hp, _ => by simp [AV.flat] at hp
  | .osl b off len, _, _, _, hp, _ => by simp [AV.flat] at hp
  | .ptr b off, _, _, _, hp, _ => by simp [AV.flat] at hp
  | .fn f caps, _, _, _, hp, _ => by simp [AV.flat] at hp
  | .ifc t a, _, _, _, hp, _ => by simp [AV.flat] at hp
  | .agg cs, _, _, _, hp, h => by
    simp only [AV.flat] at hp
    simp only [RV] at h ⊢
    obtain ⟨us, e, h⟩ := h
    exact ⟨us, e, RVs_flat w' Z' cs _ hp h⟩
  | .tup vs, _, _, _, hp, h => by
    simp only [AV.flat] at hp
    simp only [RV] at h ⊢
    obtain ⟨us, e, h⟩ := h
    exact ⟨us, e, RVl_flat w' Z' vs _ hp h⟩
  | .junk, _, _, _, hp, _ => by simp [AV.flat] at hp
theorem RVs_flat (w' : World) (Z' : Nat → Prop) : (l : List AV) → {m : AMap} → (m' : AMap) → {us : List Value} → flats l = true → RVs Z w l m us → RVs Z' w' l m' us
  | [], _, _, _, _, h => by simpa only [RVs] using h
  | a :: l, _, _, _, hp, h => by
    simp only [flats, Bool.and_eq_true] at hp
    simp only [RVs] at h ⊢
    obtain ⟨u, r, e, h1, h2, h3⟩ := h
    exact ⟨u, r, e, h1, RV_flat w' Z' a _ hp.1 h2, RVs_flat w' Z' l _ hp.2 h3⟩
theorem RVl_flat (w' : World) (Z' : Nat → Prop) : (l : List AV) → {m : AMap} → (m' : AMap) → {us : List Value} → flats l = true → RVl Z w l m us → RVl Z' w' l m' us
  | [], _, _, _, _, h => by simpa only [RVl] using h
  | a :: l, _, _, _, hp, h => by
    simp only [flats, Bool.and_eq_true] at hp
    simp only [RVl] at h ⊢
    obtain ⟨u, r, e, h2, h3⟩ := h
    exact ⟨u, r, e, RV_flat w' Z' a _ hp.1 h2, RVl_flat w' Z' l _ hp.2 h3⟩
end
end mono
section lists
variable {Z : Nat → Prop} {w : World} {m : AMap}
theorem RVs_len : {l : List AV} → {us : List Value} → RVs Z w l m us → us.length = l.length
  | [], _, h => by simp only [RVs] at h; subst h; rfl
  | _ :: l, _, h => by
    simp only [RVs] at h
    obtain ⟨u, r, rfl, _, _, h⟩ := h
    simp [RVs_len h]
theorem RVl_len : {l : List AV} → {us : List Value} → RVl Z w l m us → us.length = l.length
  | [], _, h => by simp only [RVl] at h; subst h; rfl
  | _ :: l, _, h => by
    simp only [RVl] at h
    obtain ⟨u, r, rfl, _, h⟩ := h
    simp [RVl_len h]
theorem RVs_get : {l : List AV} → {us : List Value} → RVs Z w l m us → (i : Nat) → {a : AV} → l[i]? = some a → ∃ u, us[i]? = some u ∧ a.one = true ∧ RV Z w a m u
  | [], _, _, i, _, hi => by simp at hi
  | _ :: l, _, h, 0, _, hi => by
    simp only [RVs] at h
    obtain ⟨u, r, rfl, h1, h2, _⟩ := h
    simp at hi; subst hi
    exact ⟨u, rfl, h1, h2⟩
  | _ :: l, _, h, i + 1, _, hi => by
    simp only [RVs] at h
    obtain ⟨u, r, rfl, _, _, h⟩ := h
    simp only [List.getElem?_cons_succ] at hi ⊢
    exact RVs_get h i hi
theorem RVl_get : {l : List AV} → {us : List Value} → RVl Z w l m us → (i : Nat) → {a : AV} → l[i]? = some a → ∃ u, us[i]? = some u ∧ RV Z w a m u
  | [], _, _, i, _, hi => by simp at hi
  | _ :: l, _, h, 0, _, hi => by
    simp only [RVl] at h
    obtain ⟨u, r, rfl, h2, _⟩ := h
    simp at hi; subst hi
    exact ⟨u, rfl, h2⟩
  | _ :: l, _, h, i + 1, _, hi => by
    simp only [RVl] at h
    obtain ⟨u, r, rfl, _, h⟩ := h
    simp only [List.getElem?_cons_succ] at hi ⊢
    exact RVl_get h i hi
theorem RVs_append : {l l' : List AV} → {us us' : List Value} → RVs Z w l m us → RVs Z w l' m us' → RVs Z w (l ++ l') m (us ++ us')
  | [], _, _, _, h, h' => by simp only [RVs] at h; subst h; exact h'
  | _ :: l, _, _, _, h, h' => by
    simp only [RVs] at h
    obtain ⟨u, r, rfl, h1, h2, h3⟩ := h
    simp only [List.cons_append, RVs]
    exact ⟨u, _, rfl, h1, h2, RVs_append h3 h'⟩
theorem RVl_append : {l l' : List AV} → {us us' : List Value} → RVl Z w l m us → RVl Z w l' m us' → RVl Z w (l ++ l') m (us ++ us')
  | [], _, _, _, h, h' => by simp only [RVl] at h; subst h; exact h'
  | _ :: l, _, _, _, h, h' => by
    simp only [RVl] at h
    obtain ⟨u, r, rfl, h2, h3⟩ := h
    simp only [List.cons_append, RVl]
    exact ⟨u, _, rfl, h2, RVl_append h3 h'⟩
theorem RVs_take : {l : List AV} → {us : List Value} → RVs Z w l m us → (n : Nat) → RVs Z w (l.take n) m (us.take n)
  | [], _, h, n => by simp only [RVs] at h; subst h; simp [RVs]
  | _ :: l, _, h, 0 => by simp [RVs]
  | _ :: l, _, h, n + 1 => by
    simp only [RVs] at h
    obtain ⟨u, r, rfl, h1, h2, h3⟩ := h
    simp only [List.take_succ_cons, RVs]
    exact ⟨u, _, rfl, h1, h2, RVs_take h3 n⟩
theorem RVs_drop : {l : List AV} → {us : List Value} → RVs Z w l m us → (n : Nat) → RVs Z w (l.drop n) m (us.drop n)
  | [], _, h, n => by simp only [RVs] at h; subst h; simp [RVs]
  | _ :: l, _, h, 0 => by simpa using h
  | _ :: l, _, h, n + 1 => by
    simp only [RVs] at h
    obtain ⟨u, r, rfl, _, _, h3⟩ := h
    simpa using RVs_drop h3 n
theorem RVs_cut {l : List AV} {us : List Value} (h : RVs Z w l m us) (off n : Nat) : RVs Z w (cut l off n) m ((us.drop off).take n) := RVs_take (RVs_drop h off) n
theorem RVs_store {l vs : List AV} {us ws : List Value} (h : RVs Z w l m us) (h' : RVs Z w vs m ws) (off : Nat) :
    RVs Z w (storeA l off vs) m (us.take off ++ ws ++ us.drop (off + ws.length)) := by
  unfold storeA
  rw [RVs_len h']
  exact RVs_append (RVs_append (RVs_take h _) h') (RVs_drop h _)
theorem RVs_one : {l : List AV} → {us : List Value} → RVs Z w l m us → l.all AV.one = true
  | [], _, _ => rfl
  | _ :: l, _, h => by
    simp only [RVs] at h
    obtain ⟨u, r, rfl, h1, _, h3⟩ := h
    simp [h1, RVs_one h3]
theorem RVs_of_l : {l : List AV} → {us : List Value} → RVl Z w l m us → l.all AV.one = true → RVs Z w l m us
  | [], _, h, _ => by simpa only [RVl, RVs] using h
  | _ :: l, _, h, ho => by
    simp only [RVl] at h
    obtain ⟨u, r, rfl, h2, h3⟩ := h
    simp only [List.all_cons, Bool.and_eq_true] at ho
    exact ⟨u, r, rfl, ho.1, h2, RVs_of_l h3 ho.2⟩
theorem RVl_of_s : {l : List AV} → {us : List Value} → RVs Z w l m us → RVl Z w l m us
  | [], _, h => by simpa only [RVl, RVs] using h
  | _ :: l, _, h => by
    simp only [RVs] at h
    obtain ⟨u, r, rfl, _, h2, h3⟩ := h
    exact ⟨u, r, rfl, h2, RVl_of_s h3⟩
def oneV : Value → Bool
  | .agg _ | .tuple _ => false
  | _ => true
theorem RV_one {a : AV} {v : Value} (ho : a.one = true) (h : RV Z w a m v) : oneV v = true := by
  cases a with
  | agg cs => simp [AV.one] at ho
  | tup cs => simp [AV.one] at ho
  | junk => simp [AV.one] at ho
  | sc u => simp only [RV] at h; obtain ⟨rfl, h⟩ := h; cases v <;> simp_all [plain, oneV]
  | fn f caps =>
    cases f <;> simp only [RV] at h
    case yield => obtain ⟨_, _, rfl⟩ := h; rfl
    all_goals obtain ⟨_, rfl, _⟩ := h; rfl
  | nilS => simp only [RV] at h; subst h; rfl
  | emp => simp only [RV] at h; obtain ⟨_, _, rfl⟩ := h; rfl
  | psl cs len => simp only [RV] at h; obtain ⟨_, _, rfl, _⟩ := h; rfl
  | pptr cs off => simp only [RV] at h; obtain ⟨_, _, _, rfl, _⟩ := h; rfl
  | osl b off len => simp only [RV] at h; obtain ⟨_, _, _, rfl, _⟩ := h; rfl
  | ptr b off => simp only [RV] at h; obtain ⟨_, _, rfl⟩ := h; rfl
  | ifc t v => simp only [RV] at h; obtain ⟨_, rfl, _⟩ := h; rfl
theorem oneV_cells {v : Value} (h : oneV v = true) : v.cells = #[v] := by cases v <;> simp_all [oneV, Value.cells]
theorem RVs_oneV : {l : List AV} → {us : List Value} → RVs Z w l m us → ∀ u ∈ us, oneV u = true
  | [], _, h => by simp only [RVs] at h; subst h; simp
  | _ :: l, _, h => by
    simp only [RVs] at h
    obtain ⟨u, r, rfl, h1, h2, h3⟩ := h
    intro x hx
    rcases List.mem_cons.1 hx with rfl | hx
    · exact RV_one h1 h2
    · exact RVs_oneV h3 x hx
theorem RV_cells {a : AV} {v : Value} (h : RV Z w a m v) (ho : a.cells.all AV.one = true) : RVs Z w a.cells m v.cells.toList := by
  cases a with
  | agg cs =>
    simp only [RV] at h
    obtain ⟨us, rfl, h⟩ := h
    simpa [AV.cells, Value.cells] using h
  | junk => simp [AV.cells, AV.one] at ho
  | tup vs => simp [AV.cells, AV.one] at ho
  | _ =>
    have h1 := RV_one (by simp [AV.one]) h
    rw [oneV_cells h1]
    exact ⟨v, [], rfl, by simp [AV.one], h, rfl⟩
end lists
end Go.Proofs.Bv
