/- A machine that runs closed calls: what it does. -/
import Derived.Test.YtijnlbpeckoofaaGreatEngV
import Derived.ControlIn
set_option linter.unusedVariables false
namespace Go.Proofs.YtijnlbpeckoofaaGreat

/-- The memory, what the variables of the library's hold, and the next number. -/
structure Mem where
  H : PT AObj
  next : Nat
noncomputable def Mem.push (m : Mem) (o : AObj) : Mem := ⟨m.H.set m.next (some o), m.next + 1⟩
noncomputable def Mem.put (m : Mem) (b : Nat) (o : AObj) : Mem := ⟨m.H.set b (some o), m.next⟩

noncomputable def zeroA (P : Program) (t : TypeId) : Option AV := match P.info? t with
  | some i => match i.zero with
    | some z => AV.of z
    | none => none
  | none => none
noncomputable def sizeA (P : Program) (t : TypeId) : Option Nat := match P.info? t with
  | some i => some i.size
  | none => none
noncomputable def bytesA (P : Program) (t : TypeId) : Option Nat := match P.info? t with
  | some i => some i.bytes
  | none => none
noncomputable def aggA (P : Program) (t : TypeId) : Option Bool := match P.underlying t with
  | some (.struct _) | some (.array _ _) => some true
  | some _ => some false
  | none => none
noncomputable def cellsObj (cs : List AV) (elem : TypeId) (opn : Bool) : AObj := .cells cs.length (PT.fill .nil 0 cs) elem opn false
noncomputable def one : AV → Bool
  | .agg _ | .tuple _ => false
  | _ => true
noncomputable def setAt {α : Type} : List α → Nat → List α → List α
  | cs, _, [] => cs
  | cs, i, x :: xs => setAt (cs.set i x) (i + 1) xs
noncomputable def fillA (place : Nat → Option (Nat × Nat)) : List AV → List (Nat × AV) → Option (List AV)
  | cs, [] => some cs
  | cs, (i, v) :: rest => match place i with
    | none => none
    | some (off, size) => bif Nat.beq v.cells.length size && Nat.ble (off + v.cells.length) cs.length then fillA place (setAt cs off v.cells) rest else none
noncomputable def evals (ev : Operand → Option AV) : List Operand → Option (List AV)
  | [] => some []
  | x :: xs => match ev x with
    | none => none
    | some a => match evals ev xs with
      | none => none
      | some as => some (a :: as)
noncomputable def evalsP (ev : Operand → Option AV) : List (Nat × Operand) → Option (List (Nat × AV))
  | [] => some []
  | (i, x) :: xs => match ev x with
    | none => none
    | some a => match evalsP ev xs with
      | none => none
      | some as => some ((i, a) :: as)
noncomputable def placesA (P : Program) : List Field → Option (List (Nat × Nat))
  | [] => some []
  | f :: fs => match sizeA P f.type with
    | none => none
    | some n => match placesA P fs with
      | none => none
      | some l => some ((f.offset, n) :: l)
noncomputable def loadA (P : Program) (m : Mem) (t : TypeId) (b off : Nat) : Option AV := match m.H.get b with
  | some (.cells n tr _ _ _) => match aggA P t with
    | some true => match sizeA P t with
      | some s => bif Nat.ble (off + s) n then (match tr.take off s with
        | some l => some (.agg l)
        | none => none) else none
      | none => none
    | some false => bif Nat.blt off n then tr.get off else none
    | none => none
  | _ => none
noncomputable def storeA (P : Program) (m : Mem) (t : TypeId) (b off : Nat) (v : AV) : Option Mem := match m.H.get b with
  | some (.cells n tr e opn fz) => match sizeA P t with
    | some s => bif Nat.beq v.cells.length s && Nat.ble (off + s) n && !fz && v.cells.all one then some (m.put b (.cells n (PT.fill tr off v.cells) e opn fz)) else none
    | none => none
  | _ => none
noncomputable def bytesL : Nat → Nat → List AV
  | 0, _ => []
  | n + 1, x => .int .u8 (Int.ofNat (x % 256)) :: bytesL n (x / 256)
/-- The operations that make one block and read none. -/
noncomputable def allocA (P : Program) (ev : Operand → Option AV) : Op → Option (AObj × (Nat → AV))
  | .alloc elem => match zeroA P elem with
    | some z => some (cellsObj z.cells elem false, fun b => .ptr b 0)
    | none => none
  | .box elem x => match ev x with
    | some v => some (cellsObj v.cells elem false, fun b => .ptr b 0)
    | none => none
  | .buildSlice t len parts => match P.underlying t with
    | some (.slice elem) => match sizeA P elem, zeroA P elem, evalsP ev parts.toList with
      | some size, some z, some ps =>
        bif Nat.ble (len * size) 16777216 && (Nat.beq (len * size) 0 || Nat.blt 0 z.cells.length) then
          (match fillA (fun i => some (i * size, size)) ((List.range (len * size)).map fun i => (z.cells.getD (i % z.cells.length) .undef)) ps with
          | some cs => bif Nat.beq cs.length (len * size) then some (cellsObj cs elem false, fun b => .slice b 0 len len 0) else none
          | none => none)
        else none
      | _, _, _ => none
    | _ => none
  | .makeMap _ none => some (.map [] 0, fun b => .map b)
  | .makeSlice t l c => match P.underlying t, ev l, ev c with
    | some (.slice elem), some (.int _ (.ofNat l)), some (.int _ (.ofNat c)) => match sizeA P elem, zeroA P elem, bytesA P elem with
      | some size, some z, some bytes =>
        bif Nat.ble l c && Nat.ble (c * bytes) 1099511627776 && Nat.ble c 1099511627776 && (Nat.beq (c * size) 0 || Nat.blt 0 z.cells.length) then
          some (cellsObj ((List.range (c * size)).map fun i => (z.cells.getD (i % z.cells.length) .undef)) elem false, fun b => .slice b 0 l c 0)
        else none
      | _, _, _ => none
    | _, _, _ => none
  | .convert src dst x => match P.underlying src, P.underlying dst, ev x with
    | some .string, some (.slice e), some (.str n x) => match P.underlying e with
      | some (.int .u8) => some (.cells n (PT.fill .nil 0 (bytesL n x)) e true false, fun b => .slice b 0 n n 1)
      | _ => none
    | _, _, _ => none
  | _ => none
noncomputable def wrapA (k : IntKind) (n : Int) : Int := k.wrap n
noncomputable def strLt : Nat → Nat → Nat → Nat → Bool
  | _, 0, _, _ => false
  | 0, _ + 1, _, _ => true
  | n + 1, m + 1, x, y => bif Nat.blt (x % 256) (y % 256) then true else bif Nat.beq (x % 256) (y % 256) then strLt n m (x / 256) (y / 256) else false
noncomputable def binInt (op : BinOp) (k : IntKind) (x y : Int) : Option AV := match op with
  | .add => some (.int k (k.wrap (x + y)))
  | .sub => some (.int k (k.wrap (x - y)))
  | .mul => some (.int k (k.wrap (x * y)))
  | .quo => if y = 0 then none else some (.int k (k.wrap (x.tdiv y)))
  | .rem => if y = 0 then none else some (.int k (x.tmod y))
  | .and => some (.int k (k.wrap (BitVec.ofInt k.bits x &&& BitVec.ofInt k.bits y).toNat))
  | .or => some (.int k (k.wrap (BitVec.ofInt k.bits x ||| BitVec.ofInt k.bits y).toNat))
  | .xor => some (.int k (k.wrap (BitVec.ofInt k.bits x ^^^ BitVec.ofInt k.bits y).toNat))
  | .andNot => some (.int k (k.wrap (BitVec.ofInt k.bits x &&& ~~~BitVec.ofInt k.bits y).toNat))
  | .eql => some (.bool (x == y))
  | .neq => some (.bool (x != y))
  | .lss => some (.bool (decide (x < y)))
  | .leq => some (.bool (decide (x ≤ y)))
  | .gtr => some (.bool (decide (x > y)))
  | .geq => some (.bool (decide (x ≥ y)))
  | _ => none
noncomputable def binStr (op : BinOp) (n x m y : Nat) : Option AV := match op with
  | .add => bif Nat.ble (n + m) 9223372036854775807 then some (.str (n + m) (x + 256 ^ n * y)) else none
  | .eql => some (.bool (Nat.beq n m && Nat.beq x y))
  | .neq => some (.bool (!(Nat.beq n m && Nat.beq x y)))
  | .lss => some (.bool (strLt n m x y))
  | .leq => some (.bool (strLt n m x y || (Nat.beq n m && Nat.beq x y)))
  | .gtr => some (.bool (!(strLt n m x y || (Nat.beq n m && Nat.beq x y))))
  | .geq => some (.bool (!(strLt n m x y)))
  | _ => none
/-- Equality of plain structures: numbers, strings, truths, and plain structures. -/
noncomputable def eqCells (P : Program) (sub : TypeId → List AV → List AV → Option Bool) : List Field → List AV → List AV → Option Bool
  | [], _, _ => some true
  | f :: fs, xs, ys =>
    bif f.name == "_" then eqCells P sub fs xs ys else
    match P.underlying f.type with
    | some (.int _) => match xs[f.offset]?, ys[f.offset]? with
      | some (.int k a), some (.int k' b) => if k = k' then (bif a == b then eqCells P sub fs xs ys else some false) else none
      | _, _ => none
    | some .bool => match xs[f.offset]?, ys[f.offset]? with
      | some (.bool a), some (.bool b) => bif a == b then eqCells P sub fs xs ys else some false
      | _, _ => none
    | some .string => match xs[f.offset]?, ys[f.offset]? with
      | some (.str n x), some (.str m y) => bif Nat.beq n m && Nat.beq x y then eqCells P sub fs xs ys else some false
      | _, _ => none
    | some (.struct _) => match sizeA P f.type with
      | some s => match sub f.type ((xs.drop f.offset).take s) ((ys.drop f.offset).take s) with
        | some true => eqCells P sub fs xs ys
        | some false => some false
        | none => none
      | none => none
    | _ => none
noncomputable def eqStruct (P : Program) : Nat → TypeId → List AV → List AV → Option Bool
  | 0, _, _, _ => none
  | d + 1, t, xs, ys => match P.underlying t with
    | some (.struct fs) => bif P.stoodInHeld t then none else eqCells P (eqStruct P d) fs.toList xs ys
    | _ => none
/-- Whole numbers of one kind. -/
noncomputable def intsK (k : IntKind) : List AV → Option (List Int)
  | [] => some []
  | .int k' a :: l => if k' = k then (match intsK k l with
    | some r => some (a :: r)
    | none => none) else none
  | _ => none
noncomputable def eqArray (P : Program) (len : Nat) (elem : TypeId) (xs ys : List AV) : Option Bool := match P.underlying elem, sizeA P elem with
  | some (.int k), some s => match intsK k xs, intsK k ys with
    | some as, some bs => bif Nat.beq s 1 && Nat.beq as.length len && Nat.beq bs.length len then some (as == bs) else none
    | _, _ => none
  | _, _ => none
noncomputable def eqA (P : Program) (t : TypeId) (xc yc : Bool) : AV → AV → Option Bool
  | .bool a, .bool b => match P.underlying t with
    | some .bool => some (a == b)
    | _ => none
  | .nilptr, .nilptr => match P.underlying t with
    | some (.pointer _) => some true
    | _ => none
  | .nilptr, .ptr _ _ => match P.underlying t with
    | some (.pointer _) => some false
    | _ => none
  | .ptr _ _, .nilptr => match P.underlying t with
    | some (.pointer _) => some false
    | _ => none
  | .ptr b o, .ptr c p => match P.underlying t with
    | some (.pointer e) => match sizeA P e with
      | some s => bif !(Nat.beq s 0) && Nat.beq b c then some (Nat.beq o p) else none
      | none => none
    | _ => none
  | .nilIface, .nilIface => match P.underlying t with
    | some (.interface _) => bif xc || yc then some true else none
    | _ => none
  | .nilIface, .iface _ _ => match P.underlying t with
    | some (.interface _) => some false
    | _ => none
  | .iface _ _, .nilIface => match P.underlying t with
    | some (.interface _) => some false
    | _ => none
  | .nilslice, .nilslice => match P.underlying t with
    | some (.slice _) => some true
    | _ => none
  | .nilslice, .slice .. => match P.underlying t with
    | some (.slice _) => some false
    | _ => none
  | .slice .., .nilslice => match P.underlying t with
    | some (.slice _) => some false
    | _ => none
  | .nilslice, .hollow _ => match P.underlying t with
    | some (.slice _) => some false
    | _ => none
  | .hollow _, .nilslice => match P.underlying t with
    | some (.slice _) => some false
    | _ => none
  | .nilFunc, .nilFunc => match P.underlying t with
    | some (.func ..) => some true
    | _ => none
  | .nilFunc, .func .. => match P.underlying t with
    | some (.func ..) => some false
    | _ => none
  | .func .., .nilFunc => match P.underlying t with
    | some (.func ..) => some false
    | _ => none
  | .agg xs, .agg ys => match P.underlying t with
    | some (.struct _) => bif P.eqGuardType P.depth t then none else eqStruct P 3 t xs ys
    | some (.array len elem) => bif P.eqGuardType P.depth t then none else eqArray P len elem xs ys
    | _ => none
  | _, _ => none
noncomputable def isConstA : Operand → Bool
  | .const _ => true
  | _ => false
noncomputable def shiftA (op : BinOp) (k : IntKind) (x y : Int) : Option AV :=
  if y < 0 then none else match op with
  | .shl => some (.int k (k.wrap (x * 2 ^ (min y.toNat k.bits))))
  | .shr => some (.int k (x.fdiv (2 ^ (min y.toNat k.bits))))
  | _ => none
noncomputable def binA (P : Program) (op : BinOp) (t : TypeId) (xc yc : Bool) (x y : AV) : Option AV := match op, x, y with
  | .shl, .int k a, .int _ b => shiftA .shl k a b
  | .shr, .int k a, .int _ b => shiftA .shr k a b
  | op, .int k a, .int k' b => if k = k' then binInt op k a b else none
  | op, .str n x, .str m y => binStr op n x m y
  | .eql, x, y => match eqA P t xc yc x y with
    | some b => some (.bool b)
    | none => none
  | .neq, x, y => match eqA P t xc yc x y with
    | some b => some (.bool (!b))
    | none => none
  | _, _, _ => none
noncomputable def unA (op : UnOp) (x : AV) : Option AV := match op, x with
  | .not, .bool b => some (.bool (!b))
  | .neg, .int k n => some (.int k (k.wrap (0 - n)))
  | .xor, .int k n => binInt .xor k (if k.signed then -1 else k.max) n
  | _, _ => none
noncomputable def bytesOf : List AV → Option Nat
  | [] => some 0
  | .int .u8 n :: l => match n, bytesOf l with
    | .ofNat a, some x => bif Nat.blt a 256 then some (a + 256 * x) else none
    | _, _ => none
  | _ => none
noncomputable def convA (P : Program) (m : Mem) (src dst : TypeId) (x : AV) : Option AV := match P.underlying src, P.underlying dst, x with
  | some (.int _), some (.int k), .int _ n => some (.int k (k.wrap n))
  | some .string, some .string, .str n x => some (.str n x)
  | some (.slice e), some .string, x => match P.underlying e with
    | some (.int .u8) => match x with
      | .nilslice => some (.str 0 0)
      | .slice b off len _ _ => match m.H.get b with
        | some (.cells n tr _ _ _) => bif Nat.ble (off + len) n then (match tr.take off len with
          | some l => match bytesOf l with
            | some x => some (.str len x)
            | none => none
          | none => none) else none
        | _ => none
      | _ => none
    | _ => none
  | some (.pointer _), some .unsafePointer, .nilptr => some .nilptr
  | some (.pointer t), some .unsafePointer, .ptr b off => match m.H.get b, sizeA P t with
    | some (.cells n _ _ false _), some s => bif !(Nat.beq s 0) && Nat.blt off n then some (.ptr b off) else none
    | _, _ => none
  | some .unsafePointer, some (.pointer _), .nilptr => some .nilptr
  | some .unsafePointer, some (.pointer u), .ptr b off => match m.H.get b, sizeA P u with
    | some (.cells n _ e false _), some _ => bif liesAt P P.depth e (n / P.cellsOf e) off u 1 then some (.ptr b off) else none
    | _, _ => none
  | _, _, _ => none
noncomputable def boundA (lim : Nat) (dflt : Nat) : Option AV → Option Nat
  | none => some dflt
  | some (.int _ n) => match n with
    | .ofNat i => bif Nat.ble i lim then some i else none
    | _ => none
  | _ => none
/-- A string's or a row's part. The capacity's lower bound serves where the row is open. -/
noncomputable def sliceA (P : Program) (t : TypeId) (x : AV) (lo hi mx : Option AV) : Option AV := match mx with
  | some mv => match P.underlying t, x, hi with
    | some (.slice elem), .slice b off len cap e, some hv => match boundA cap 0 (some mv) with
      | some k => match boundA k 0 (some hv) with
        | some h => match boundA h 0 lo, sizeA P elem with
          | some l, some s => bif Nat.beq k l then some (.slice b off (h - l) 0 0) else some (.slice b (off + l * s) (h - l) (k - l) 0)
          | _, _ => none
        | none => none
      | none => none
    | _, _, _ => none
  | none => match P.underlying t, x with
    | some .string, .str n x => match boundA n n hi with
      | some h => match boundA h 0 lo with
        | some l => some (.str (h - l) (x / 256 ^ l % 256 ^ (h - l)))
        | none => none
      | none => none
    | some (.slice elem), .nilslice => match boundA 0 0 hi with
      | some h => match boundA h 0 lo, sizeA P elem with
        | some _, some _ => some .nilslice
        | _, _ => none
      | none => none
    | some (.slice elem), .slice b off len cap e => match boundA cap len hi with
      | some h => match boundA h 0 lo, sizeA P elem with
        | some l, some s =>
          bif Nat.beq l 0 then some (.slice b off h cap e)
          else bif Nat.beq e 0 then (bif Nat.beq cap l then some (.slice b off (h - l) 0 0) else some (.slice b (off + l * s) (h - l) (cap - l) 0))
          else bif Nat.blt l cap && Nat.beq s e then some (.slice b (off + l * s) (h - l) (cap - l) e) else bif Nat.beq h l then some (.hollow b) else none
        | _, _ => none
      | none => none
    | some (.array n elem), .ptr b off => match boundA n n hi with
      | some h => match boundA h 0 lo, sizeA P elem with
        | some l, some s => bif Nat.beq n l then some (.slice b off (h - l) 0 0) else some (.slice b (off + l * s) (h - l) (n - l) 0)
        | _, _ => none
      | none => none
    | _, _ => none
noncomputable def partA (P : Program) (t : TypeId) (cs : List AV) (off : Nat) : Option AV := match aggA P t with
  | some true => match sizeA P t with
    | some s => some (.agg ((cs.drop off).take s))
    | none => none
  | some false => cs[off]?
  | none => none
noncomputable def sameKey (P : Program) (kt : TypeId) : TypeDesc → AV → AV → Option Bool
  | .int _, .int k a, .int k' b => if k = k' then some (a == b) else none
  | .string, .str n x, .str m y => some (Nat.beq n m && Nat.beq x y)
  | .bool, .bool a, .bool b => some (a == b)
  | .struct _, .agg xs, .agg ys => eqStruct P 3 kt xs ys
  | _, _, _ => none
noncomputable def findA (P : Program) (kt : TypeId) (kind : TypeDesc) (k : AV) : List (AV × AV × Nat) → Nat → Option (Option (Nat × AV))
  | [], _ => some none
  | (k', v, _) :: es, i => match sameKey P kt kind k k' with
    | some true => some (some (i, v))
    | some false => findA P kt kind k es (i + 1)
    | none => none
noncomputable def plainType : Option TypeDesc → Bool
  | some (.int _) | some .string | some .bool => true
  | _ => false
noncomputable def plainKey (P : Program) : TypeDesc → Bool
  | .int _ | .string | .bool => true
  | .struct fs => fs.toList.all fun f => plainType (P.underlying f.type)
  | _ => false
/-- A key that has all its fields. -/
noncomputable def keyFits (P : Program) : TypeDesc → AV → Bool
  | .struct fs, .agg xs => fs.toList.all fun f => match P.underlying f.type, xs[f.offset]? with
    | some (.int _), some (.int _ _) => true
    | some .string, some (.str _ _) => true
    | some .bool, some (.bool _) => true
    | _, _ => false
  | .struct _, _ => false
  | _, _ => true
noncomputable def lookA (P : Program) (m : Mem) (t : TypeId) (x ix : AV) (ok : Bool) : Option AV := match P.underlying t with
  | some (.map key elem) => match P.underlying key, zeroA P elem with
    | some kd, some z => bif plainKey P kd && keyFits P kd ix then
        (match x with
        | .nilmap => some (if ok then .tuple [z, .bool false] else z)
        | .map b => match m.H.get b with
          | some (.map es _) => match findA P key kd ix es 0 with
            | some (some (_, v)) => some (if ok then .tuple [v, .bool true] else v)
            | some none => some (if ok then .tuple [z, .bool false] else z)
            | none => none
          | _ => none
        | _ => none) else none
    | _, _ => none
  | _ => none
/-- The same plain value, to the bit. -/
noncomputable def plainSame : AV → AV → Bool
  | .int j a, .int k b => (if j = k then true else false) && a == b
  | .str n x, .str m y => Nat.beq n m && Nat.beq x y
  | .bool a, .bool b => a == b
  | _, _ => false
noncomputable def plainSames : List AV → List AV → Bool
  | [], [] => true
  | a :: as, b :: bs => plainSame a b && plainSames as bs
  | _, _ => false
noncomputable def keySame : AV → AV → Bool
  | .agg xs, .agg ys => plainSames xs ys
  | a, b => plainSame a b
noncomputable def updA (k v : AV) : List (AV × AV × Nat) → Nat → List (AV × AV × Nat)
  | [], _ => []
  | e :: es, 0 => (k, v, e.2.2) :: es
  | e :: es, i + 1 => e :: updA k v es i
noncomputable def updateA (P : Program) (m : Mem) (t : TypeId) (x k v : AV) : Option Mem := match P.underlying t with
  | some (.map key _) => match P.underlying key with
    | some kd => bif plainKey P kd && keyFits P kd k then
        (match x with
        | .map b => match m.H.get b with
          | some (.map es clock) => match findA P key kd k es 0 with
            | some (some (i, _)) => match es[i]? with
              | some e => bif keySame e.1 k then some (m.put b (.map (updA k v es i) clock)) else none
              | none => none
            | some none => some (m.put b (.map (es ++ [(k, v, clock)]) (clock + 1)))
            | none => none
          | _ => none
        | _ => none) else none
    | none => none
  | _ => none
noncomputable def rdPick (P : Program) (m : Mem) (ev : Operand → Option AV) (c a b : Operand) : Option AV := match ev c with
  | some (.bool true) => ev a
  | some (.bool false) => ev b
  | _ => none
noncomputable def rdBuild (P : Program) (m : Mem) (ev : Operand → Option AV) (t : TypeId) (parts : Array (Nat × Operand)) : Option AV := match zeroA P t, evalsP ev parts.toList with
  | some z, some ps => match P.underlying t with
    | some (.struct fs) => match placesA P fs.toList with
      | some pl => match fillA (fun i => pl[i]?) z.cells ps with
        | some cs => some (.agg cs)
        | none => none
      | none => none
    | some (.array _ elem) => match sizeA P elem with
      | some s => match fillA (fun i => some (i * s, s)) z.cells ps with
        | some cs => some (.agg cs)
        | none => none
      | none => none
    | _ => none
  | _, _ => none
noncomputable def rdLoad (P : Program) (m : Mem) (ev : Operand → Option AV) (t : TypeId) (a : Operand) : Option AV := match ev a with
  | some (.ptr b off) => loadA P m t b off
  | _ => none
noncomputable def rdNil (P : Program) (m : Mem) (ev : Operand → Option AV) (x : Operand) : Option AV := match ev x with
  | some (.ptr b off) => some (.ptr b off)
  | some (.iface t v) => some (.iface t v)
  | some (.func (.func f) a b) => some (.func (.func f) a b)
  | _ => none
noncomputable def rdBin (P : Program) (m : Mem) (ev : Operand → Option AV) (op : BinOp) (t : TypeId) (x y : Operand) : Option AV := match ev x, ev y with
  | some a, some b => binA P op t (isConstA x) (isConstA y) a b
  | _, _ => none
noncomputable def rdUn (P : Program) (m : Mem) (ev : Operand → Option AV) (op : UnOp) (x : Operand) : Option AV := match ev x with
  | some a => unA op a
  | none => none
noncomputable def rdConv (P : Program) (m : Mem) (ev : Operand → Option AV) (src dst : TypeId) (x : Operand) : Option AV := match ev x with
  | some a => convA P m src dst a
  | none => none
noncomputable def rdIface (P : Program) (m : Mem) (ev : Operand → Option AV) (t : TypeId) (x : Operand) : Option AV := match ev x, P.underlying t with
  | some a, some (.interface _) => none
  | some a, some _ => some (.iface t a)
  | _, _ => none
noncomputable def rdFunc (P : Program) (m : Mem) (ev : Operand → Option AV) (fn : Fn) (first captured : Array Operand) : Option AV := match fn with
  | .yield _ => none
  | fn => match evals ev first.toList, evals ev captured.toList with
    | some a, some b => some (.func fn a b)
    | _, _ => none
noncomputable def rdSlice (P : Program) (m : Mem) (ev : Operand → Option AV) (t : TypeId) (x : Operand) (lo hi mx : Option Operand) : Option AV := match ev x with
  | some a => match lo, hi, mx with
    | none, none, none => sliceA P t a none none none
    | some l, none, none => match ev l with
      | some l => sliceA P t a (some l) none none
      | none => none
    | none, some h, none => match ev h with
      | some h => sliceA P t a none (some h) none
      | none => none
    | some l, some h, none => match ev l, ev h with
      | some l, some h => sliceA P t a (some l) (some h) none
      | _, _ => none
    | some l, some h, some k => match ev l, ev h, ev k with
      | some l, some h, some k => sliceA P t a (some l) (some h) (some k)
      | _, _, _ => none
    | none, some h, some k => match ev h, ev k with
      | some h, some k => sliceA P t a none (some h) (some k)
      | _, _ => none
    | _, _, _ => none
  | none => none
noncomputable def rdFieldAddr (P : Program) (m : Mem) (ev : Operand → Option AV) (s : TypeId) (x : Operand) (f : Nat) : Option AV := match P.underlying s, ev x with
  | some (.struct fs), some (.ptr b off) => match fs[f]? with
    | some fd => match sizeA P fd.type with
      | some n => bif Nat.beq n 0 then none else some (.ptr b (off + fd.offset))
      | none => none
    | none => none
  | _, _ => none
noncomputable def rdField (P : Program) (m : Mem) (ev : Operand → Option AV) (t : TypeId) (x : Operand) (f : Nat) : Option AV := match P.underlying t, ev x with
  | some (.struct fs), some (.agg l) => match fs[f]? with
    | some fd => partA P fd.type l fd.offset
    | none => none
  | _, _ => none
noncomputable def rdIndexAddr (P : Program) (m : Mem) (ev : Operand → Option AV) (t : TypeId) (x ix : Operand) : Option AV := match P.underlying t, ev x, ev ix with
  | some (.slice elem), some (.slice b off len _ _), some (.int _ (.ofNat i)) => match sizeA P elem with
    | some s => bif Nat.blt i len then some (.ptr b (off + i * s)) else none
    | none => none
  | some (.array len elem), some (.ptr b off), some (.int _ (.ofNat i)) => match sizeA P elem with
    | some s => bif Nat.blt i len then some (.ptr b (off + i * s)) else none
    | none => none
  | _, _, _ => none
noncomputable def rdIndex (P : Program) (m : Mem) (ev : Operand → Option AV) (t : TypeId) (x ix : Operand) : Option AV := match P.underlying t, ev x, ev ix with
  | some (.array len elem), some (.agg l), some (.int _ (.ofNat i)) => match sizeA P elem with
    | some s => bif Nat.blt i len then partA P elem l (i * s) else none
    | none => none
  | some .string, some (.str n x), some (.int _ (.ofNat i)) => bif Nat.blt i n then some (.int .u8 (Int.ofNat (x / 256 ^ i % 256))) else none
  | _, _, _ => none
noncomputable def rdLookup (P : Program) (m : Mem) (ev : Operand → Option AV) (t : TypeId) (x ix : Operand) (ok : Bool) : Option AV := match ev x, ev ix with
  | some a, some b => lookA P m t a b ok
  | _, _ => none
noncomputable def rdEntry (P : Program) (m : Mem) (ev : Operand → Option AV) (it : Operand) : Option AV := match ev it with
  | some (.ptr b 0) => match m.H.get b with
    | some (.mapIter mb _ seen stepped) => match m.H.get mb, seen.getLast? with
      | some (.map es clock), some stamp => bif Nat.beq clock stepped then (match es.find? (fun e => Nat.beq e.2.2 stamp) with
        | some e => some (.tuple [e.1, e.2.1])
        | none => none) else none
      | _, _ => none
    | _ => none
  | _ => none
noncomputable def rdAssert (P : Program) (m : Mem) (ev : Operand → Option AV) (x : Operand) (xt asserted : TypeId) (ok : Bool) : Option AV := match P.underlying asserted, ev x with
  | some (.interface _), _ => none
  | some _, some (.iface t v) => bif Nat.beq t asserted then some (if ok then .tuple [v, .bool true] else v) else bif ok then (match zeroA P asserted with
    | some z => some (.tuple [z, .bool false])
    | none => none) else none
  | _, _ => none
noncomputable def rdExtract (P : Program) (m : Mem) (ev : Operand → Option AV) (t : Operand) (i : Nat) : Option AV := match ev t with
  | some (.tuple l) => l[i]?
  | _ => none
noncomputable def rdLen (P : Program) (m : Mem) (ev : Operand → Option AV) (args : Array Operand) (argTypes : Array TypeId) : Option AV := match argTypes.toList, evals ev args.toList with
  | t :: _, some (a :: _) => match P.underlying t, a with
    | some .string, .str n _ => some (.int .i64 n)
    | some (.slice _), .nilslice => some (.int .i64 0)
    | some (.slice _), .slice _ _ len _ _ => some (.int .i64 len)
    | some (.slice _), .hollow _ => some (.int .i64 0)
    | some (.array n _), _ => some (.int .i64 n)
    | some (.map _ _), .nilmap => some (.int .i64 0)
    | some (.map _ _), .map b => match m.H.get b with
      | some (.map es _) => some (.int .i64 es.length)
      | _ => none
    | _, _ => none
  | _, _ => none
noncomputable def rdCap (P : Program) (m : Mem) (ev : Operand → Option AV) (args : Array Operand) (argTypes : Array TypeId) : Option AV := match argTypes.toList, evals ev args.toList with
  | t :: _, some (a :: _) => match P.underlying t, a with
    | some (.slice _), .nilslice => some (.int .i64 0)
    | some (.slice _), .slice _ _ _ cap 0 => some (.int .i64 cap)
    | _, _ => none
  | _, _ => none
noncomputable def rdMax (P : Program) (m : Mem) (ev : Operand → Option AV) (args : Array Operand) (argTypes : Array TypeId) : Option AV := match evals ev args.toList with
  | some [.int k a, .int _ b] => some (.int k (if b > a then b else a))
  | _ => none
noncomputable def rdMin (P : Program) (m : Mem) (ev : Operand → Option AV) (args : Array Operand) (argTypes : Array TypeId) : Option AV := match evals ev args.toList with
  | some [.int k a, .int _ b] => some (.int k (if b < a then b else a))
  | _ => none
noncomputable def rdUnsafeSliceData (P : Program) (m : Mem) (ev : Operand → Option AV) (args : Array Operand) (argTypes : Array TypeId) : Option AV := match evals ev args.toList with
  | some [.nilslice] => some .nilptr
  | some [.slice b off _ cap _] => bif Nat.blt 0 cap then some (.ptr b off) else none
  | _ => none
noncomputable def rdCall (P : Program) (m : Mem) (ev : Operand → Option AV) (c : Call) : Option AV := match c.callee with
  | .builtin .len => rdLen P m ev c.args c.argTypes
  | .builtin .cap => rdCap P m ev c.args c.argTypes
  | .builtin .max => rdMax P m ev c.args c.argTypes
  | .builtin .min => rdMin P m ev c.args c.argTypes
  | .builtin .unsafeSliceData => rdUnsafeSliceData P m ev c.args c.argTypes
  | _ => none
/-- The operations that read (or do not), and change nothing. -/
noncomputable def readA (P : Program) (m : Mem) (ev : Operand → Option AV) : Op → Option AV
  | .move x | .assign x => ev x
  | .pick c a b => rdPick P m ev c a b
  | .build t parts => rdBuild P m ev t parts
  | .load t a => rdLoad P m ev t a
  | .nilCheck x => rdNil P m ev x
  | .binOp op t x y _ => rdBin P m ev op t x y
  | .unOp op _ x => rdUn P m ev op x
  | .convert src dst x => rdConv P m ev src dst x
  | .makeInterface t x => rdIface P m ev t x
  | .makeFunc fn first captured => rdFunc P m ev fn first captured
  | .slice t x lo hi mx => rdSlice P m ev t x lo hi mx
  | .fieldAddr s x f => rdFieldAddr P m ev s x f
  | .field t x f => rdField P m ev t x f
  | .indexAddr t x ix => rdIndexAddr P m ev t x ix
  | .index t x ix => rdIndex P m ev t x ix
  | .lookup t x ix ok => rdLookup P m ev t x ix ok
  | .entry it => rdEntry P m ev it
  | .typeAssert x xt asserted ok => rdAssert P m ev x xt asserted ok
  | .extract t i => rdExtract P m ev t i
  | .call c => rdCall P m ev c
  | _ => none
