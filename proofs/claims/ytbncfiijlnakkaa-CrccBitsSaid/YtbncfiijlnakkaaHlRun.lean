import Derived.Test.YtbncfiijlnakkaaHlOps
/-! Hl: operations on memory, regions, code, calls. -/
namespace Go.Hl

def bytesOf : List V → Option (List UInt8)
  | [] => some []
  | .int .u8 n :: l => (bytesOf l).map fun r => UInt8.ofNat n.toNat :: r
  | _ => none
def byteCells (l : List UInt8) : List V := l.map fun b => .int .u8 b.toNat
def zeros (z : List V) : Nat → List V
  | 0 => []
  | n + 1 => z ++ zeros z n

/-- A variable that is read. -/
def readVar (P : Program) (t : TypeId) (a : V) (h : H) : Option V :=
  match ti P t with
  | some i => match a with
    | .ptr b off ver z => match h.read b off ver i.sz with
      | some l => if off + i.sz ≤ z then cond i.agg (some (.agg l)) l.head? else none
      | none => none
    | _ => none
  | none => none
/-- What an operation reads. -/
def readOp (P : Program) (op : Op) (ρ : Operand → V) (h : H) : Option V :=
  match op with
  | .load t a => readVar P t (ρ a) h
  | .convert s t x => match P.underlying s, P.underlying t with
    | some (.slice e), some .string => match P.underlying e, ρ x with
      | some (.int .u8), .nils => some (.str [])
      | some (.int .u8), .sl b off len ver ez _ => match h.read b off ver len with
        | some l => if ez = 1 then (bytesOf l).map .str else none
        | none => none
      | _, _ => none
    | _, _ => none
  | _ => none

/-- The cells of what is appended, and how many elements they are. -/
def sourceOf (h : H) (esz : Nat) : V → Option (Nat × List V)
  | .nils => some (0, [])
  | .sl b off len ver ez _ => if ez = esz then (h.read b off ver (len * esz)).map fun l => (len, l) else none
  | .str s => if esz = 1 then some (s.length, byteCells s) else none
  | _ => none

def appendTo (h : H) (esz : Nat) (s : V) (m : Nat) (ys : List V) : Option (V × H) :=
  match s with
  | .nils => if ys.all V.cellOk then some (.sl h.size 0 m 0 esz false, h.new ys) else none
  | .sl b off len ver ez true => match h.read b off ver (len * esz) with
    | some old => if (old ++ ys).all V.cellOk ∧ ez = esz then some (.sl h.size 0 (len + m) 0 esz false, h.new (old ++ ys)) else none
    | none => none
  | .sl b off len ver ez false => match h.blks[b]? with
    | some k =>
      if ez = esz then
        if off + len * esz = k.cells.length then (h.grow b ver ys).map fun h' => (.sl b off (len + m) (ver + 1) esz false, h')
        else if off + (len + m) * esz ≤ k.cells.length then (h.write b (off + len * esz) ver ys).map fun h' => (.sl b off (len + m) ver esz false, h')
        else none
      else none
    | none => none
  | _ => none

def lenV : V → Nat
  | .sl _ _ n _ _ _ => n
  | _ => 0

/-- What an operation makes, or writes. -/
def actOp (P : Program) (op : Op) (ρ : Operand → V) (h : H) : Option (V × H) :=
  match op with
  | .alloc t => match ti P t with
    | some i => if i.zero.all V.cellOk then some (.ptr h.size 0 0 i.zero.length, h.new i.zero) else none
    | none => none
  | .box _ x => if (ρ x).cells.all V.cellOk then some (.ptr h.size 0 0 (ρ x).cells.length, h.new (ρ x).cells) else none
  | .store t a x => match ti P t with
    | some i => match ρ a with
      | .ptr b off ver z => if (ρ x).cells.length = i.sz ∧ off + i.sz ≤ z then (h.write b off ver (ρ x).cells).map fun h' => (.undef, h') else none
      | _ => none
    | none => none
  | .buildSlice t len parts => if parts.toList.any (fun p => (ρ p.2).isU) then none else match ti P t with
    | some i => match i.d with
      | .slice e esz _ => match ti P e with
        | some j =>
          if len * esz ≤ 16777216 ∧ j.zero.length = esz ∧ 0 < esz then
            match pureOp.fillA len esz (zeros j.zero len) (parts.toList.map fun p => (p.1, ρ p.2)) with
            | some cells => if cells.all V.cellOk then some (.sl h.size 0 len 0 esz false, h.new cells) else none
            | none => none
          else none
        | none => none
      | _ => none
    | none => none
  | .makeSlice t l c => match ti P t with
    | some i => match i.d with
      | .slice e esz eb => match ti P e with
        | some j => match ρ l, ρ c with
          | .int _ n, .int _ m =>
            if 0 ≤ n ∧ n ≤ m ∧ m ≤ 70368744177664 ∧ m * eb ≤ 70368744177664 ∧ j.zero.length = esz ∧ 0 < esz ∧ j.zero.all V.cellOk then
              some (.sl h.size 0 n.toNat 0 esz false, h.new (zeros j.zero n.toNat))
            else none
          | _, _ => none
        | none => none
      | _ => none
    | none => none
  | .convert s t x => match P.underlying s, ti P t with
    | some .string, some i => match i.d, ρ x with
      | .slice e 1 1, .str l => match P.underlying e with
        | some (.int .u8) => some (.sl h.size 0 l.length 0 1 false, h.new (byteCells l))
        | _ => none
      | _, _ => none
    | _, _ => none
  | .call { callee := .builtin .append, args, argTypes } => match args.toList, argTypes.toList with
    | [s, x], [t, u] => match ti P t with
      | some i => match i.d, P.underlying u with
        | .slice e esz eb, some d => if isIntD d then none else match ti P e, sourceOf h esz (ρ x) with
          | some j, some (m, ys) =>
            if j.zero.length ≠ esz then none
            else if m = 0 then (match ρ s with
              | .nils => some (.nils, h)
              | .sl b off len ver ez lim => some (.sl b off len ver ez lim, h)
              | _ => none)
            else if 0 < esz ∧ (lenV (ρ s) + m) * eb ≤ 70368744177664 ∧ lenV (ρ s) + m ≤ 70368744177664 then appendTo h esz (ρ s) m ys else none
          | _, _ => none
        | _, _ => none
      | none => none
    | _, _ => none
  | _ => none

inductive Kind where
  | pure | read | act | call | no
  deriving DecidableEq, Inhabited
def kindOf (P : Program) : Op → Kind
  | .move _ | .assign _ | .pick .. | .nilCheck _ | .binOp .. | .unOp .. | .build .. | .slice .. | .fieldAddr .. | .field .. | .indexAddr .. | .index .. | .extract .. | .makeFunc .. | .makeInterface .. => .pure
  | .load .. => .read
  | .convert s t _ => match P.underlying s, P.underlying t with
    | some (.slice _), some .string => .read
    | some .string, some (.slice _) => .act
    | _, _ => .pure
  | .alloc _ | .box .. | .store .. | .buildSlice .. | .makeSlice .. => .act
  | .call { callee := .builtin b, .. } => match b with
    | .len | .min | .max => .pure
    | .append => .act
    | _ => .no
  | .call { callee := .value _, .. } => .call
  | _ => .no

abbrev CallT := FuncId → List V → H → Option (V × H)

def callOp (call : CallT) (op : Op) (ρ : Operand → V) (h : H) : Option (V × H) :=
  match op with
  | .call { callee := .value f, args, .. } => match ρ f with
    | .fn (.func g) first caps => call g (first ++ args.toList.map ρ ++ caps) h
    | _ => none
  | _ => none

def step (call : CallT) (P : Program) (o : Oper) (ρ : Operand → V) (h : H) : Option (V × H) :=
  match kindOf P o.op with
  | .pure => (pureOp P o ρ).map fun v => (v, h)
  | .read => (readOp P o.op ρ h).map fun v => (v, h)
  | .act => actOp P o.op ρ h
  | .call => callOp call o.op ρ h
  | .no => none

abbrev Env := List V
def ev (e : Env) : Operand → V
  | .tmp t => e.getD t .undef
  | .const v => ofVal v
  | .func f => .fn (.func f) [] []
  | .global _ => .undef
def put (e : Env) (d : Option Tmp) (v : V) : Env :=
  match d with
  | some t => e.set t v
  | none => e
def forget : List Oper → Env → Env
  | [], e => e
  | o :: l, e => forget l (put e o.dst .undef)

/-- How many operations stand ahead of the one that picks by c. -/
def ahead (c : Tmp) : List Oper → Nat
  | [] => 0
  | o :: l => match o.op with
    | .pick (.tmp d) _ _ => if d = c then 0 else ahead c l + 1
    | _ => ahead c l + 1

def dstOf (ops : List Oper) (q : Nat) : Option Tmp := (ops[q]?).bind (·.dst)

/-- Operations in the order of the text; those under a guard together, up to the one that picks. -/
def runOps (call : CallT) (P : Program) (ops : List Oper) : Nat → Option (Nat × Bool) → List Oper → Env → H → Option (Env × H)
  | _, _, [], e, h => some (e, h)
  | 0, _, _ :: _, _, _ => none
  | n + 1, ctx, o :: rest, e, h =>
    if o.guard = ctx then (step call P o (ev e) h).bind fun r => runOps call P ops n ctx rest (put e o.dst r.1) r.2
    else match o.guard with
      | none => none
      | some (q, w) => match dstOf ops q with
        | none => none
        | some c => match e.getD c .undef with
          | .bool b =>
            match (o :: rest).drop (ahead c (o :: rest)) with
            | { dst, op := .pick _ x y, .. } :: rest' =>
              (cond (b == w) ((runOps call P ops n (some (q, w)) ((o :: rest).take (ahead c (o :: rest))) e h).map fun r => (ev r.1 (cond w x y), r.2)) (some (ev (forget ((o :: rest).take (ahead c (o :: rest))) e) (cond w y x), h))).bind
                fun r => runOps call P ops n ctx rest' (put (forget ((o :: rest).take (ahead c (o :: rest))) e) dst r.1) r.2
            | _ => none
          | _ => none

/-- The operations under a guard (its operation number q, its temporary c), from number i on: they touch c no more, and hang on it, or on each other. -/
def grpOk (q : Nat) (w : Bool) (c : Tmp) (i : Nat) : Nat → List Oper → Bool
  | _, [] => true
  | j, o :: l => (o.dst != some c) && (match o.guard with
    | some (q', w') => (q' == q && w' == w) || (decide (i ≤ q') && decide (q' < j))
    | none => false) && grpOk q w c i (j + 1) l
/-- Guards lie in one another as 'runOps' goes through them. -/
def grpsOk (ops : List Oper) : Nat → Option (Nat × Bool) → Nat → List Oper → Bool
  | _, _, _, [] => true
  | 0, _, _, _ :: _ => false
  | n + 1, ctx, i, o :: rest =>
    if o.guard = ctx then grpsOk ops n ctx (i + 1) rest
    else match o.guard with
      | none => false
      | some (q, w) => match dstOf ops q with
        | none => false
        | some c => match (o :: rest).drop (ahead c (o :: rest)) with
          | pk :: rest' => decide (pk.guard = ctx) && grpOk q w c i i ((o :: rest).take (ahead c (o :: rest))) && grpsOk ops n (some (q, w)) i ((o :: rest).take (ahead c (o :: rest))) && grpsOk ops n ctx (i + ahead c (o :: rest) + 1) rest'
          | [] => false

/-- What each operation waits for, as bits. -/
def waits : List Oper → List Nat → List Nat
  | [], acc => acc
  | o :: l, acc => waits l (acc ++ [o.after.toList.foldl (fun s e => if Region.binds .any e then s ||| 2 ^ e.on ||| acc.getD e.on 0 else s) 0])

/-- One operation of a region whose order is open: what stood ahead of it in the text's order, its value, whether its guard said no. -/
structure Rec where
  e : Env
  h : H
  v : V
  s : Bool
  deriving Inhabited

def skipOf (ops : List Oper) (o : Oper) (sk : List Bool) (e : Env) : Option Bool :=
  match o.guard with
  | none => some false
  | some (q, w) => if sk.getD q false then some true else match dstOf ops q with
    | some c => match e.getD c .undef with
      | .bool b => some (b != w)
      | _ => none
    | none => none

def lexRun (call : CallT) (P : Program) (ops : List Oper) : List Oper → List Bool → Env → H → Option (List Rec × Env × H)
  | [], _, e, h => some ([], e, h)
  | o :: l, sk, e, h =>
    (skipOf ops o sk e).bind fun s => (cond s (some (.undef, h)) (step call P o (ev e) h)).bind fun r =>
      (lexRun call P ops l (sk ++ [s]) (put e o.dst r.1) r.2).bind fun x => some (⟨e, h, r.1, s⟩ :: x.1, x.2)

def isAct (P : Program) (o : Oper) : Bool := match kindOf P o.op with
  | .act => true
  | .call => true
  | _ => false
def isRead (P : Program) (o : Oper) : Bool := match kindOf P o.op with
  | .read => true
  | _ => false
def bit (B : List Nat) (i k : Nat) : Bool := (B.getD i 0).testBit k
/-- What reads, and what acts, in either order: (reads, acts). -/
def floats (P : Program) (ops : List Oper) (B : List Nat) : List (Nat × Nat) :=
  (List.range ops.length).flatMap fun j => (List.range ops.length).filterMap fun k =>
    match ops[j]?, ops[k]? with
    | some oj, some ok => if isRead P oj && isAct P ok && (if j < k then !bit B k j else !bit B j k) then some (j, k) else none
    | _, _ => none
def hAt (rs : List Rec) (hN : H) (m : Nat) : H := match rs[m]? with
  | some r => r.h
  | none => hN
def sameAs (v : V) : Option V → Bool
  | some u => V.same u v
  | none => false
/-- It reads the same, wherever it comes. -/
def pairOk (P : Program) (ops : List Oper) (rs : List Rec) (hN : H) (j k : Nat) : Bool :=
  match ops[j]?, rs[j]?, rs[k]? with
  | some oj, some rj, some rk => rj.s || rk.s || sameAs rj.v (readOp P oj.op (ev rj.e) (if j < k then hAt rs hN (k + 1) else rk.h))
  | _, _, _ => false
/-- Operations whose order is open. -/
def runAny (call : CallT) (P : Program) (ops : List Oper) (F : List (Nat × Nat)) (e : Env) (h : H) : Option (Env × H) :=
  (lexRun call P ops ops [] e h).bind fun x => if F.all (fun p => pairOk P ops x.1 x.2.2 p.1 p.2) then some x.2 else none

def looks (ops : List Oper) (o : Oper) : List Tmp :=
  (o.op.operands.toList.filterMap fun | .tmp t => some t | _ => none) ++ (match o.guard with
    | some (q, _) => (dstOf ops q).toList
    | none => [])
/-- What must hold of such operations at all. -/
def anyOk (P : Program) (ops : List Oper) (B : List Nat) : Bool :=
  (List.range ops.length).all fun i => match ops[i]? with
    | none => false
    | some o =>
      o.after.toList.all (fun e => !Region.binds .any e || decide (e.on < i)) &&
      (match o.guard with
        | some (q, _) => decide (q < i) && bit B i q && (dstOf ops q).isSome
        | none => true) &&
      (List.range ops.length).all fun j => match ops[j]? with
        | none => false
        | some p =>
          (if i = j then true else (match o.dst with
            | some d => p.dst != some d
            | none => true)) &&
          (match p.dst with
            | some d => if (looks ops o).contains d then (if j < i then bit B i j else if i < j then bit B j i else true) else true
            | none => true) &&
          (if isAct P o && isAct P p && decide (j < i) then bit B i j else true)

inductive Ex where
  | normal | exit (id : Nat) | ret
  deriving Inhabited

abbrev Out := Option (Ex × Env × H)

def iter (f : Env → H → Out) : Nat → Env → H → Out
  | 0, _, _ => none
  | n + 1, e, h => match f e h with
    | some (.normal, e', h') => iter f n e' h'
    | r => r

def exec (call : CallT) (P : Program) (k : Nat) : Code → Env → H → Out
  | .skip, e, h => some (.normal, e, h)
  | .region _ ops false, e, h => (runOps call P ops.toList ops.size none ops.toList e h).map fun r => (.normal, r.1, r.2)
  | .region _ ops true, e, h => (runAny call P ops.toList (floats P ops.toList (waits ops.toList [])) e h).map fun r => (.normal, r.1, r.2)
  | .seq a b, e, h => match exec call P k a e h with
    | some (.normal, e', h') => exec call P k b e' h'
    | r => r
  | .cond c a b, e, h => match ev e c with
    | .bool t => cond t (exec call P k a e h) (exec call P k b e h)
    | _ => none
  | .block id b, e, h => match exec call P k b e h with
    | some (.exit j, e', h') => if j = id then some (.normal, e', h') else some (.exit j, e', h')
    | r => r
  | .loop b, e, h => iter (exec call P k b) k e h
  | .exit id, e, h => some (.exit id, e, h)
  | .ret, e, h => some (.ret, e, h)
  | _, _, _ => none

/-- What a call hands back. -/
def resultOf (P : Program) (e : Env) (h : H) : ResultVar → Option V
  | .tmp t => some (e.getD t .undef)
  | .cell a t => readVar P t (e.getD a .undef) h
def resultsOf (P : Program) (e : Env) (h : H) : List ResultVar → Option (List V)
  | [] => some []
  | r :: l => match resultOf P e h r with
    | some v => (resultsOf P e h l).map fun vs => v :: vs
    | none => none
def tupOf : List V → V
  | [v] => v
  | l => .tup l

/-- Blocks that the call made, and that nothing names any more, are given up. -/
def leave (h h' : H) (v : V) : H :=
  if V.under h.size v && h'.esc.all (fun x => decide (h.size ≤ x.1) || decide (x.2 < h.size)) then
    { blks := h'.blks.take h.size, esc := h.esc ++ h'.esc.filter fun x => decide (x.1 < h.size) }
  else { blks := h'.blks, esc := h.esc ++ h'.esc }

def finish (P : Program) (fn : Func) (h : H) : Out → Option (V × H)
  | some (.exit _, _, _) => none
  | some (_, e, h') => (resultsOf P e h' fn.results.toList).map fun vs => (tupOf vs, leave h h' (tupOf vs))
  | none => none

/-- Every region of code is of a form that is known. -/
def codeOk (P : Program) : Code → Bool
  | .region _ ops false => grpsOk ops.toList ops.size none 0 ops.toList
  | .region _ ops true => anyOk P ops.toList (waits ops.toList [])
  | .seq a b => codeOk P a && codeOk P b
  | .cond _ a b => codeOk P a && codeOk P b
  | .block _ b => codeOk P b
  | .loop b => codeOk P b
  | .skip => true
  | .exit _ => true
  | .ret => true
  | _ => false
def fnOk (P : Program) (fn : Func) : Bool := (fn.name != "runtime.NumGoroutine") && match fn.body with
  | some c => codeOk P c
  | none => false

def enter (fn : Func) (args : List V) : Env := args ++ List.replicate (fn.ntmps - args.length) .undef

/-- A call. -/
def callF (P : Program) : Nat → CallT
  | 0, _, _, _ => none
  | k + 1, f, args, h => match P.funcs[f]? with
    | some fn => if fnOk P fn then match fn.body with
        | some c => finish P fn h (exec (callF P k) P k c (enter fn args) { blks := h.blks, esc := [] })
        | none => none
      else none
    | none => none

end Go.Hl
