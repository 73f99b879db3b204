/- A machine that runs closed calls: how it runs. -/
import Derived.Test.YtijnlbpeckoofaaGreatEngE
set_option linter.unusedVariables false
namespace Go.Proofs.YtijnlbpeckoofaaGreat

noncomputable def small : Nat := 1099511627776
/-- What is appended: the cells. -/
noncomputable def cellsFrom (m : Mem) (size : Nat) : AV → Option (Nat × List AV)
  | .nilslice => some (0, [])
  | .hollow _ => some (0, [])
  | .slice b off len _ _ => match m.H.get b with
    | some (.cells n tr _ _ _) => bif Nat.ble (off + len * size) n then (match tr.take off (len * size) with
      | some l => some (len, l)
      | none => none) else none
    | _ => none
  | .str n x => bif Nat.beq size 1 then some (n, bytesL n x) else none
  | _ => none
/-- What is appended, by its type: a row's, a string's, or noughts (append(s, make(..)..)). -/
noncomputable def newsA (P : Program) (m : Mem) (elem xt : TypeId) (x : AV) : Option (Nat × List AV) := match P.underlying xt, sizeA P elem with
  | some (.int _), some size => match x, zeroA P elem, bytesA P elem with
    | .int _ (.ofNat n), some z, some bytes => bif Nat.ble n small && Nat.ble (n * bytes) small && Nat.beq z.cells.length size && z.cells.all one then some (n, (List.range (n * z.cells.length)).map fun i => z.cells.getD (i % z.cells.length) .undef) else none
    | _, _, _ => none
  | some (.slice _), some size => match x with
    | .str _ _ => none
    | x => match cellsFrom m size x with
      | some (k, l) => bif l.all one then some (k, l) else none
      | none => none
  | some .string, some size => match x with
    | .str n x => bif Nat.beq size 1 then some (n, bytesL n x) else none
    | _ => none
  | _, _ => none
noncomputable def appendA (P : Program) (m : Mem) (st xt : TypeId) (s x : AV) : Option (AV × Mem) := match P.underlying st with
  | some (.slice elem) => match sizeA P elem, bytesA P elem, zeroA P elem, newsA P m elem xt x with
    | some size, some bytes, some z, some (k, new) =>
      bif Nat.blt 0 size && Nat.beq z.cells.length size then
      (match s with
      | .nilslice => bif Nat.beq k 0 then some (.nilslice, m) else
          bif Nat.ble (k * bytes) small && Nat.ble k small then some (.slice m.next 0 k k size, m.push (cellsObj new elem true)) else none
      | .slice b off len cap e =>
        bif Nat.ble (len + k) cap then
          (match m.H.get b with
          | some (.cells n tr el opn fz) => bif Nat.ble (off + (len + k) * size) n && !fz && new.all one then
              some (.slice b off (len + k) cap e, m.put b (.cells n (PT.fill tr (off + len * size) new) el opn fz)) else none
          | _ => none)
        else bif Nat.ble ((len + k) * bytes) small && Nat.ble (len + k) small then
          (match m.H.get b with
          | some (.cells n tr el opn fz) => bif Nat.ble (off + len * size) n then (match tr.take off (len * size) with
            | some old =>
              bif Nat.beq e 0 then some (.slice m.next 0 (len + k) (len + k) size, m.push (cellsObj (old ++ new) elem true))
              else bif Nat.beq e size && Nat.beq off 0 && Nat.beq el elem && !fz && new.all one then
                some (.slice m.next 0 (len + k) (len + k) size, (⟨m.H.set b none, m.next⟩ : Mem).push (cellsObj (old ++ new) elem true))
              else none
            | none => none) else none
          | _ => none)
        else none
      | _ => none)
      else none
    | _, _, _, _ => none
  | _ => none
noncomputable def methodA (P : Program) (t : TypeId) (v : AV) (name : String) : Option (FuncId × AV) := match P.info? t with
  | some i => match i.methods.find? (fun m => m.name == name) with
    | some m => bif m.path.isEmpty then (match m.func, P.underlying t with
      | some (f, true), some (.pointer _) => some (f, v)
      | some (_, true), _ => none
      | some (_, false), some (.pointer _) => none
      | some (f, false), some _ => some (f, v)
      | _, _ => none) else none
    | none => none
  | none => none
/-- Where a call leads. -/
inductive Goal where
  | fn (f : FuncId) (args : List AV)
  | yield (l : Nat) (args : List AV)
noncomputable def goalA (P : Program) (ev : Operand → Option AV) (c : Call) : Option Goal := match c.callee, evals ev c.args.toList with
  | .value f, some args => match ev f with
    | some (.func (.func f) first captured) => some (.fn f (first ++ args ++ captured))
    | some (.func (.yield l) [] []) => some (.yield l args)
    | some (.func (.method name) first captured) => match first ++ args with
      | .iface t v :: rest => match methodA P t v name with
        | some (f, r) => some (.fn f (r :: rest))
        | none => none
      | _ => none
    | _ => none
  | .invoke r name, some args => match ev r with
    | some (.iface t v) => match methodA P t v name with
      | some (f, r) => some (.fn f (r :: args))
      | none => none
    | _ => none
  | _, _ => none
noncomputable def efStore (P : Program) (m : Mem) (ev : Operand → Option AV) (t : TypeId) (a x : Operand) : Option (AV × Mem) := match ev a, ev x with
  | some (.ptr b off), some v => match storeA P m t b off v with
    | some m => some (.undef, m)
    | none => none
  | _, _ => none
noncomputable def efUpdate (P : Program) (m : Mem) (ev : Operand → Option AV) (t : TypeId) (x k v : Operand) : Option (AV × Mem) := match ev x, ev k, ev v with
  | some a, some k, some v => match updateA P m t a k v with
    | some m => some (.undef, m)
    | none => none
  | _, _, _ => none
noncomputable def efAppend (P : Program) (m : Mem) (ev : Operand → Option AV) (args : Array Operand) (argTypes : Array TypeId) : Option (AV × Mem) := match argTypes.toList, evals ev args.toList with
  | [st, xt], some [s, x] => appendA P m st xt s x
  | _, _ => none
noncomputable def efString (P : Program) (m : Mem) (ev : Operand → Option AV) (args : Array Operand) (argTypes : Array TypeId) : Option (AV × Mem) := match argTypes.toList, evals ev args.toList with
  | [_, _], some [.nilptr, .int .i64 (.ofNat 0)] => some (.str 0 0, m)
  | [pt, _], some [.ptr b 0, .int .i64 (.ofNat k)] => bif Nat.beq k 0 then some (.str 0 0, m) else
    match P.underlying pt, m.H.get b with
    | some (.pointer u), some (.cells n tr el opn fz) => bif Nat.beq u el && Nat.beq (P.cellsOf el) 1 && Nat.ble k n && Nat.ble k small && !fz then (match tr.take 0 k with
      | some l => match bytesOf l with
        | some x => some (.str k x, m.put b (.cells n tr el opn true))
        | none => none
      | none => none) else none
    | _, _ => none
  | _, _ => none
noncomputable def minA (a b : Nat) : Nat := bif Nat.ble a b then a else b
noncomputable def efCopy (P : Program) (m : Mem) (ev : Operand → Option AV) (args : Array Operand) (argTypes : Array TypeId) : Option (AV × Mem) := match argTypes.toList, evals ev args.toList with
  | [st, _], some [.slice b off len _ _, .str k x] => match P.underlying st, m.H.get b with
    | some (.slice elem), some (.cells n tr el opn fz) => match sizeA P elem with
      | some size => bif Nat.beq size 1 && Nat.ble (off + minA k len) n && !fz then some (.int .i64 (Int.ofNat (minA k len)), m.put b (.cells n (PT.fill tr off (bytesL (minA k len) x)) el opn fz)) else none
      | none => none
    | _, _ => none
  | _, _ => none
noncomputable def efRange (P : Program) (m : Mem) (ev : Operand → Option AV) (t : TypeId) (x : Operand) : Option (AV × Mem) := match P.underlying t, ev x with
  | some (.map _ _), some .nilmap => some (.ptr m.next 0, m.push .nilIter)
  | some (.map _ _), some (.map b) => match m.H.get b with
    | some (.map _ clock) => some (.ptr m.next 0, m.push (.mapIter b clock [] clock))
    | _ => none
  | _, _ => none
noncomputable def efNext (P : Program) (m : Mem) (ev : Operand → Option AV) (it : Operand) : Option (AV × Mem) := match ev it with
  | some (.ptr b 0) => match m.H.get b with
    | some .nilIter => some (.tuple [.bool false], m)
    | some (.mapIter mb since seen stepped) => match m.H.get mb with
      | some (.map es clock) =>
        bif !seen.isEmpty && !es.isEmpty && es.all (fun e => Nat.ble stepped e.2.2) then none else
        match (es.filter fun e => !seen.contains e.2.2).filter (fun e => Nat.blt e.2.2 since), (es.filter fun e => !seen.contains e.2.2).filter (fun e => !Nat.blt e.2.2 since) with
        | [], [] => some (.tuple [.bool false], m)
        | [(k, v, born)], [] => some (.tuple [.bool true, k, v], m.put b (.mapIter mb since (seen ++ [born]) clock))
        | _, _ => none
      | _ => none
    | _ => none
  | _ => none
noncomputable def efCall (P : Program) (m : Mem) (ev : Operand → Option AV) (c : Call) : Option (AV × Mem) := match c.callee with
  | .builtin .append => efAppend P m ev c.args c.argTypes
  | .builtin .unsafeString => efString P m ev c.args c.argTypes
  | .builtin .copy => efCopy P m ev c.args c.argTypes
  | _ => none
/-- Effects that are no calls. -/
noncomputable def effA (P : Program) (m : Mem) (ev : Operand → Option AV) : Op → Option (AV × Mem)
  | .store t a x => efStore P m ev t a x
  | .mapUpdate t x k v => efUpdate P m ev t x k v
  | .insert t x k v => efUpdate P m ev t x k v
  | .range t x => efRange P m ev t x
  | .next it false => efNext P m ev it
  | .call c => efCall P m ev c
  | _ => none
inductive AExit where
  | normal
  | exit (id : Nat)
  | goto (l : Nat)
  | ret
/-- A frame: what its temporaries hold, and the blocks of its deferred calls. -/
structure Fr where
  tm : PT AV
  defs : List Nat
abbrev Rec := Option Nat → Nat → Code → Fr → Mem → Option (AExit × Fr × Mem)
abbrev Hd := FuncId → Option (List AV → Mem → Option (AV × Mem))
/-- What is fixed: the program, the calls that are known, how many variables there are. -/
structure Cf where
  P : Program
  hd : Hd
  g0 : Nat
noncomputable def evalA (cf : Cf) (tm : PT AV) : Operand → Option AV
  | .tmp t => tm.get t
  | .const v => AV.of v
  | .global g => bif Nat.blt g cf.g0 then some (.ptr g 0) else none
  | .func f => some (.func (.func f) [] [])
noncomputable def resultsA (P : Program) (m : Mem) (tm : PT AV) : List ResultVar → Option (List AV)
  | [] => some []
  | .tmp t :: rs => match tm.get t, resultsA P m tm rs with
    | some a, some as => some (a :: as)
    | _, _ => none
  | .cell a t :: rs => match tm.get a, resultsA P m tm rs with
    | some (.ptr b off), some as => match loadA P m t b off with
      | some v => some (v :: as)
      | none => none
    | _, _ => none
noncomputable def resultA : List AV → AV
  | [a] => a
  | l => .tuple l
noncomputable def shutDefs : List Nat → Mem → Option Mem
  | [], m => some m
  | d :: ds, m => match m.H.get d with
    | some (.deferred true) => shutDefs ds (m.put d (.deferred false))
    | _ => none
noncomputable def bodyA (cf : Cf) (rec : Rec) (f : FuncId) (args : List AV) (m : Mem) : Option (AV × Mem) := match cf.P.funcs[f]? with
  | some fn => match fn.body with
    | some c => match rec none (max args.length fn.ntmps) c ⟨PT.fill .nil 0 args, []⟩ m with
      | some (.normal, fr, m) | some (.ret, fr, m) => match shutDefs fr.defs m with
        | some m => match resultsA cf.P m fr.tm fn.results.toList with
          | some rs => some (resultA rs, m)
          | none => none
        | none => none
      | _ => none
    | none => none
  | none => none
noncomputable def callA (cf : Cf) (rec : Rec) (f : FuncId) (args : List AV) (m : Mem) : Option (AV × Mem) := match cf.hd f with
  | some h => h args m
  | none => bodyA cf rec f args m
noncomputable def setParams : PT AV → List (Tmp × AV) → PT AV
  | tm, [] => tm
  | tm, (t, a) :: l => setParams (tm.set t (some a)) l
noncomputable def exitCode : AExit → Option Code
  | .normal => none
  | .exit id => some (.exit id)
  | .goto l => some (.goto l)
  | .ret => some .ret
noncomputable def yieldA (rec : Rec) (l : Nat) (args : List AV) (m : Mem) : Option (AV × Mem) := match m.H.get l with
  | some (.loop _ _ tm size params assign body defers) =>
    bif Nat.beq args.length params.size && params.toList.all (fun t => Nat.blt t size) then
      match rec (some l) size assign ⟨setParams tm (params.toList.zip args), []⟩ m with
      | some (.normal, fr, m) => match m.H.get l with
        | some (.loop .ready pd tm size' params assign body' defers) =>
          match rec (some l) size body ⟨fr.tm, fr.defs⟩ (m.put l (.loop .busy pd tm size' params assign body' defers)) with
          | some (e, fr, m) => match fr.defs with
            | [] => match m.H.get l with
              | some (.loop _ _ tm size params assign body defers) =>
                some (.bool (exitCode e).isNone, m.put l (.loop (if (exitCode e).isNone then .ready else .done) (exitCode e) tm size params assign body defers))
              | _ => none
            | _ => none
          | none => none
        | _ => none
      | _ => none
    else none
  | _ => none
noncomputable def goalRun (cf : Cf) (rec : Rec) (m : Mem) : Goal → Option (AV × Mem)
  | .fn f args => callA cf rec f args m
  | .yield l args => yieldA rec l args m
/-- One operation, whatever it is. -/
noncomputable def opA (cf : Cf) (rec : Rec) (ev : Operand → Option AV) (o : Op) (m : Mem) : Option (AV × Mem) := match readA cf.P m ev o with
  | some v => some (v, m)
  | none => match allocA cf.P ev o with
    | some (obj, f) => some (f m.next, m.push obj)
    | none => match effA cf.P m ev o with
      | some r => some r
      | none => match o with
        | .call c => match goalA cf.P ev c with
          | some g => goalRun cf rec m g
          | none => none
        | _ => none
noncomputable def putA (tm : PT AV) : Option Tmp → AV → PT AV
  | some d, v => tm.set d (some v)
  | none, _ => tm
noncomputable def guardA (ops : Array Oper) (tm : PT AV) (o : Oper) : Option Bool := match o.guard with
  | none => some true
  | some (j, want) => match ops[j]? with
    | none => some false
    | some g => match g.dst with
      | none => some false
      | some d => match tm.get d with
        | some (.bool b) => some (b == want)
        | some (.tuple []) => some false
        | _ => none
noncomputable def dstOk (N : Nat) : Option Tmp → Bool
  | none => true
  | some d => Nat.blt d N
noncomputable def seqA (cf : Cf) (rec : Rec) (ops : Array Oper) (N : Nat) : List Oper → PT AV → Mem → Option (PT AV × Mem)
  | [], tm, m => some (tm, m)
  | o :: l, tm, m => bif dstOk N o.dst then (match guardA ops tm o with
    | some true => match opA cf rec (evalA cf tm) o.op m with
      | some (v, m) => seqA cf rec ops N l (putA tm o.dst v) m
      | none => none
    | some false => seqA cf rec ops N l (putA tm o.dst .undef) m
    | none => none) else none

/-! ### A region whose order is open -/
mutual
noncomputable def beqA : AV → AV → Bool
  | .bool a, .bool b => a == b
  | .int j a, .int k b => (if j = k then true else false) && (if a = b then true else false)
  | .str n x, .str m y => Nat.beq n m && Nat.beq x y
  | .nilptr, .nilptr => true
  | .ptr b o, .ptr c p => Nat.beq b c && Nat.beq o p
  | .nilslice, .nilslice => true
  | .slice b o l c e, .slice b' o' l' c' e' => Nat.beq b b' && Nat.beq o o' && Nat.beq l l' && Nat.beq c c' && Nat.beq e e'
  | .nilmap, .nilmap => true
  | .map b, .map c => Nat.beq b c
  | .nilFunc, .nilFunc => true
  | .func f a b, .func g c d => (if f = g then true else false) && beqL a c && beqL b d
  | .iface t v, .iface u w => Nat.beq t u && beqA v w
  | .nilIface, .nilIface => true
  | .agg l, .agg l' => beqL l l'
  | .tuple l, .tuple l' => beqL l l'
  | .hollow b, .hollow c => Nat.beq b c
  | _, _ => false
noncomputable def beqL : List AV → List AV → Bool
  | [], [] => true
  | a :: as, b :: bs => beqA a b && beqL as bs
  | _, _ => false
end
noncomputable def maskA (acc : PT Nat) : List Edge → Nat
  | [] => 0
  | e :: es => bif Region.binds .any e then Nat.lor (Nat.lor (2 ^ e.on) (match acc.get e.on with | some x => x | none => 0)) (maskA acc es) else maskA acc es
noncomputable def masksA : List Oper → Nat → PT Nat → List Nat
  | [], _, _ => []
  | o :: l, i, acc => maskA acc o.after.toList :: masksA l (i + 1) (acc.set i (some (maskA acc o.after.toList)))
noncomputable def looksA (ops : Array Oper) (o : Oper) : List Tmp :=
  (o.op.operands.toList.filterMap fun | .tmp t => some t | _ => none) ++
  (match o.guard with
   | some (g, _) => match ops[g]? with
     | some x => x.dst.toList
     | none => []
   | none => [])
/-- Of an operation at its place, against another one at its: the two do not meet but in the order of the text. -/
noncomputable def apartA (ops : Array Oper) (i : Nat) (o : Oper) (b : Nat) (j : Nat) (p : Oper) (c : Nat) : Bool := match p.dst with
  | none => true
  | some d => bif Nat.beq i j then true else
      bif (looksA ops o).contains d then (bif Nat.blt j i then b.testBit j else c.testBit i)
      else (match o.dst with
        | some d' => !Nat.beq d d'
        | none => true)
noncomputable def numbered {α : Type} : List α → Nat → List (Nat × α)
  | [], _ => []
  | x :: xs, i => (i, x) :: numbered xs (i + 1)
noncomputable def rowA (ops : Array Oper) : List (Nat × Oper × Nat) := numbered (ops.toList.zip (masksA ops.toList 0 .nil)) 0
noncomputable def planA (ops : Array Oper) : Bool :=
  (rowA ops).all fun x => (x.2.1.after.toList.all fun e => bif Region.binds .any e then Nat.blt e.on x.1 else true) &&
    (match x.2.1.guard with
     | some (g, _) => x.2.2.testBit g
     | none => true) &&
    (rowA ops).all fun y => apartA ops x.1 x.2.1 x.2.2 y.1 y.2.1 y.2.2
structure Stage where
  H : PT AObj
  abs : Nat
  e : Option Nat
structure DS where
  tm : PT AV
  next : Nat
  top : Stage
  old : List Stage
  allocs : List (Nat × Nat × AObj)
  reads : List (Nat × PT AV × Op × AV × Nat)
noncomputable def ovl (mask abs : Nat) : List (Nat × Nat × AObj) → PT AObj → PT AObj
  | [], H => H
  | (i, id, o) :: l, H => bif mask.testBit i && !abs.testBit i then (ovl mask abs l H).set id (some o) else ovl mask abs l H
noncomputable def pureOp : Op → Bool
  | .move _ | .assign _ | .pick .. | .build .. | .nilCheck _ | .binOp .. | .unOp .. | .makeInterface .. | .makeFunc .. | .slice .. | .fieldAddr .. | .field .. | .indexAddr .. | .index .. | .typeAssert .. | .extract .. => true
  | _ => false
noncomputable def stops (b : Nat) : Option Nat → Bool
  | none => true
  | some e => b.testBit e
noncomputable def readsAt (cf : Cf) (allocs : List (Nat × Nat × AObj)) (b : Nat) (tm : PT AV) (op : Op) (v : AV) (s : Stage) : Bool := match readA cf.P ⟨ovl b s.abs allocs s.H, 0⟩ (evalA cf tm) op with
  | some v' => beqA v v'
  | none => false
noncomputable def readsOld (cf : Cf) (allocs : List (Nat × Nat × AObj)) (b : Nat) (tm : PT AV) (op : Op) (v : AV) : List Stage → Bool
  | [] => true
  | s :: ss => readsAt cf allocs b tm op v s && (stops b s.e || readsOld cf allocs b tm op v ss)
noncomputable def drawOne (cf : Cf) (rec : Rec) (ops : Array Oper) (N : Nat) (i : Nat) (o : Oper) (b : Nat) (S : DS) : Option DS :=
  bif dstOk N o.dst then (match guardA ops S.tm o with
    | some false => some { S with tm := putA S.tm o.dst .undef }
    | some true => match readA cf.P ⟨ovl b S.top.abs S.allocs S.top.H, 0⟩ (evalA cf S.tm) o.op with
      | some v =>
        bif pureOp o.op then some { S with tm := putA S.tm o.dst v }
        else bif stops b S.top.e || readsOld cf S.allocs b S.tm o.op v S.old then
          some { S with tm := putA S.tm o.dst v, reads := (i, S.tm, o.op, v, b) :: S.reads }
        else none
      | none => match allocA cf.P (evalA cf S.tm) o.op with
        | some (obj, f) => some { S with tm := putA S.tm o.dst (f S.next), next := S.next + 1, allocs := (i, S.next, obj) :: S.allocs }
        | none =>
          bif stops b S.top.e && Nat.beq (Nat.land b S.top.abs) S.top.abs then
            match opA cf rec (evalA cf S.tm) o.op ⟨ovl b S.top.abs S.allocs S.top.H, S.next⟩ with
            | some (v, m) =>
              bif S.reads.all (fun r => b.testBit r.1 || readsAt cf S.allocs r.2.2.2.2 r.2.1 r.2.2.1 r.2.2.2.1 ⟨m.H, b, some i⟩) then
                some { tm := putA S.tm o.dst v, next := m.next, top := ⟨m.H, b, some i⟩, old := S.top :: S.old, allocs := S.allocs, reads := S.reads.filter fun r => !b.testBit r.1 }
              else none
            | none => none
          else none
    | none => none) else none
noncomputable def drawA (cf : Cf) (rec : Rec) (ops : Array Oper) (N : Nat) : List (Nat × Oper × Nat) → DS → Option DS
  | [], S => some S
  | x :: l, S => match drawOne cf rec ops N x.1 x.2.1 x.2.2 S with
    | some S => drawA cf rec ops N l S
    | none => none
noncomputable def regionA (cf : Cf) (rec : Rec) (ops : Array Oper) (N : Nat) (tm : PT AV) (m : Mem) : Option (PT AV × Mem) :=
  bif planA ops then
    match drawA cf rec ops N (rowA ops) ⟨tm, m.next, ⟨m.H, 0, none⟩, [], [], []⟩ with
    | some S => some (S.tm, ⟨ovl (2 ^ ops.size - 1) S.top.abs S.allocs S.top.H, S.next⟩)
    | none => none
  else none

/-! ### Code -/
noncomputable def jumpA : Option Code → Option AExit
  | none => some .normal
  | some .ret => some .ret
  | some (.exit id) => some (.exit id)
  | some (.goto l) => some (.goto l)
  | _ => none
noncomputable def scopeA (rec : Fr → Code → Mem → Option (AExit × Fr × Mem)) (body : Code) : Nat → Code → Fr → Mem → Option (AExit × Fr × Mem)
  | 0, _, _, _ => none
  | n + 1, c, fr, m => match rec fr c m with
    | some (.goto l, fr, m) => match findLabel body l with
      | some rest => scopeA rec body n rest fr m
      | none => some (.goto l, fr, m)
    | r => r
noncomputable def stepA (cf : Cf) (rec : Rec) : Rec := fun ro N c fr m => match c with
  | .skip => some (.normal, fr, m)
  | .label _ => some (.normal, fr, m)
  | .scope body => scopeA (fun fr c m => rec ro N c fr m) body 100000 body fr m
  | .region _ ops false => match seqA cf rec ops N ops.toList fr.tm m with
    | some (tm, m) => some (.normal, { fr with tm := tm }, m)
    | none => none
  | .region _ ops true => match regionA cf rec ops N fr.tm m with
    | some (tm, m) => some (.normal, { fr with tm := tm }, m)
    | none => none
  | .seq a b => match rec ro N a fr m with
    | some (.normal, fr, m) => rec ro N b fr m
    | r => r
  | .cond c t e => match evalA cf fr.tm c with
    | some (.bool true) => rec ro N t fr m
    | some (.bool false) => rec ro N e fr m
    | _ => none
  | .block id c => match rec ro N c fr m with
    | some (.exit id', fr, m) => bif Nat.beq id' id then some (.normal, fr, m) else some (.exit id', fr, m)
    | r => r
  | .loop c => match rec ro N c fr m with
    | some (.normal, fr, m) => rec ro N (.loop c) fr m
    | r => r
  | .exit id => some (.exit id, fr, m)
  | .goto l => some (.goto l, fr, m)
  | .ret => some (.ret, fr, m)
  | .rangeFunc g params assign body =>
    match (match ro with
      | none => some (m.next, m.push (.deferred true), m.next :: fr.defs)
      | some l => match m.H.get l with
        | some (.loop _ _ _ _ _ _ _ d) => some (d, m, fr.defs)
        | _ => none) with
    | some (d, m1, defs) => match evalA cf fr.tm g with
      | some (.func (.func f) first captured) =>
        match bodyA cf rec f (first ++ [.func (.yield m1.next) [] []] ++ captured) (m1.push (.loop .ready none fr.tm N params assign body d)) with
        | some (_, m3) => match m3.H.get m1.next with
          | some (.loop st pd tm size ps as bd d) => bif st == .busy then none else match jumpA pd with
            | some e => some (e, { fr with defs := defs }, m3.put m1.next (.loop .exhausted pd tm size ps as bd d))
            | none => none
          | _ => none
        | none => none
      | _ => none
    | none => none
  | _ => none
noncomputable def runA (cf : Cf) : Nat → Rec
  | 0 => fun _ _ _ _ _ => none
  | n + 1 => stepA cf (runA cf n)
/-- A call with no memory of its own. -/
noncomputable def evalCall (cf : Cf) (G : PT AObj) (n : Nat) (f : FuncId) (args : List AV) : Option AV := match callA cf (runA cf n) f args ⟨G, cf.g0⟩ with
  | some (v, _) => some v
  | none => none
