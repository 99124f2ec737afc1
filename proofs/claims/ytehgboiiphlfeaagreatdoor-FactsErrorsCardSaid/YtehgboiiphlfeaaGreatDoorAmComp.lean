/- THE ABSTRACT MACHINE: a function of the program, out of the model's form of it. -/
import GoSem.Op.Equal
import GoSem.Core.Region
import Derived.Test.YtehgboiiphlfeaaGreatDoorAmDefs
namespace Go.AM
open Go

def slot (nt t : Nat) : Option Pos := if t < nt then some (Pos.ofSlot t) else none

/-- may it lie in one cell? -/
def one1 : Value → Bool
  | .agg _ | .tuple _ => false
  | _ => true

mutual
def avOf : Value → Option AV
  | .bool b => some (.bool b)
  | .int k n => some (.int k n)
  | .string s => some (.str (s.data.toList.map (·.toNat)))
  | .pointer none => some .nilp
  | .slice none 0 0 => some .nils
  | .map none => some .nilm
  | .nilFunc => some .nilf
  | .nilIface => some .nili
  | .agg ⟨cs⟩ => if cs.all one1 then (avsOf cs).map .agg else none
  | .tuple ⟨cs⟩ => (avsOf cs).map .tup
  | _ => none
def avsOf : List Value → Option (List AV)
  | [] => some []
  | v :: l => match avOf v, avsOf l with
    | some v, some l => some (v :: l)
    | _, _ => none
end

def axOf (nt : Nat) : Operand → Option AX
  | .tmp t => (slot nt t).map .t
  | .const v => (avOf v).map .c
  | .func f => some (.c (.fn f []))
  | .global _ => none

def axsOf (nt : Nat) : List Operand → Option (List AX)
  | [] => some []
  | x :: l => match axOf nt x, axsOf nt l with
    | some x, some l => some (x :: l)
    | _, _ => none

def axoOf (nt : Nat) : Option Operand → Option (Option AX)
  | none => some none
  | some x => (axOf nt x).map some

def zeroOf (P : Program) (t : TypeId) : Option AV := ((P.info? t).bind (·.zero)).bind avOf
def zerosOf (P : Program) (t : TypeId) : Option (List AV) := ((P.info? t).bind (·.zero)).bind fun v => if v.cells.toList.all one1 then avsOf v.cells.toList else none
def sizeOf? (P : Program) (t : TypeId) : Option Nat := (P.info? t).map (·.size)

/-- some (some n): n cells taken together; some none: one cell -/
def groupOf (P : Program) (t : TypeId) : Option (Option Nat) :=
  match P.underlying t with
  | some (.struct _) | some (.array _ _) => (sizeOf? P t).map some
  | some _ => some none
  | none => none

/-- the cells of a type whose values are scalars or structs of these side by side, as they are held against each other -/
def flat (P : Program) : Nat → TypeId → Option (List EK)
  | 0, _ => none
  | d + 1, t =>
    match P.underlying t with
    | some .bool => some [.b]
    | some (.int _) => some [.i]
    | some .string => some [.s]
    | some (.struct fs) => if P.stoodInHeld t then none else
        match fields (flat P d) fs.toList 0 with
        | some ks => if sizeOf? P t = some ks.length then some ks else none
        | none => none
    | _ => none
where
  fields (rec_ : TypeId → Option (List EK)) : List Field → Nat → Option (List EK)
    | [], _ => some []
    | f :: l, o => match rec_ f.type with
      | some ks => if f.name ≠ "_" ∧ f.offset = o ∧ sizeOf? P f.type = some ks.length then
          match fields rec_ l (o + ks.length) with
          | some r => some (ks ++ r)
          | none => none
        else none
      | none => none

/-- how values of the type are held against each other -/
def ekOf (P : Program) (t : TypeId) : Option EK :=
  match P.underlying t with
  | some .bool => some .b
  | some (.int _) => some .i
  | some .string => some .s
  | some (.pointer _) => some .np
  | some (.slice _) => some .nsl
  | some (.map _ _) => some .nm
  | some (.func _ _ _) => some .nf
  | some (.interface _) => some .ni
  | some (.struct _) => if P.eqGuardType P.depth t then none else (flat P 8 t).map .ag
  | _ => none

/-- keys of maps -/
def ekKey (P : Program) (t : TypeId) : Option EK :=
  match P.underlying t with
  | some .bool => some .b
  | some (.int _) => some .i
  | some .string => some .s
  | some (.struct _) => (flat P 8 t).map .ag
  | _ => none

def partsOf (nt : Nat) (place : Nat → Option (Nat × Nat)) : List (Nat × Operand) → Option (List (Nat × Nat × AX))
  | [] => some []
  | (i, x) :: l => match place i, axOf nt x, partsOf nt place l with
    | some (o, n), some x, some l => some ((o, n, x) :: l)
    | _, _, _ => none

def elemOf? (P : Program) (t : TypeId) : Option (TypeId × Nat) :=
  match P.underlying t with
  | some (.slice e) => match sizeOf? P e with
    | some n => if n = 0 then none else some (e, n)
    | none => none
  | _ => none

def bytesOf? (P : Program) (t : TypeId) : Option Nat := (P.info? t).map (·.bytes)

/-- does the call of the built-in function leave a value? -/
def biLeaves : Builtin → Bool
  | .delete | .clear | .copy => false
  | _ => true

/-- a call of a built-in function -/
def biOf (P : Program) (d : Option Pos) (b : Builtin) (args : List AX) (ts : List TypeId) : Option AI :=
  let D := d.getD .h
  match b, args, ts with
  | .len, [x], [t] => match P.underlying t with
    | some .string => some (.len D .s x)
    | some (.slice _) => some (.len D .nsl x)
    | some (.map _ _) => some (.len D .nm x)
    | _ => none
  | .append, [x, y], [t, u] => match elemOf? P t with
    | some (e, n) => match P.underlying u, bytesOf? P e, zerosOf P e with
      | some (.slice _), some by_, some z | some .string, some by_, some z => if z.length = n then some (.app D e n by_ x y) else none
      | _, _, _ => none
    | none => none
  | .copy, [x, y], [t, _] => match elemOf? P t with
    | some (_, n) => some (.copy d n x y)
    | none => none
  | .clear, [x], [t] => match elemOf? P t with
    | some (e, n) => match zerosOf P e with
      | some z => if z.length == n then some (.clear d z x) else none
      | none => none
    | none => none
  | .delete, [m, k], [t, _] => match P.underlying t with
    | some (.map kt _) => (ekKey P kt).map fun ek => .mdel d ek m k
    | _ => none
  | _, _, _ => none

/-- one operation, its guard left aside; d: its slot -/
def opOf1 (P : Program) (nt : Nat) (d : Option Pos) (o : Oper) : Option AI :=
  let D := d.getD .h
  let ax := axOf nt
  match o.op with
  | .move x | .assign x => (ax x).map (.mov D)
  | .pick c a b => match ax c, ax a, ax b with
    | some c, some a, some b => some (.pick D c a b)
    | _, _, _ => none
  | .alloc e => match zerosOf P e with
    | some z => some (.alloc D e z)
    | none => none
  | .box e x => match ax x, sizeOf? P e with
    | some x, some n => some (.box D e n x)
    | _, _ => none
  | .build t ps => match P.underlying t, zerosOf P t with
    | some (.struct fs), some z =>
      match partsOf nt (fun i => match fs[i]? with | some f => (sizeOf? P f.type).map fun n => (f.offset, n) | none => none) ps.toList with
      | some ps => if fs.all fun f => (P.info? f.type).isSome then some (.build D z ps) else none
      | none => none
    | some (.array _ e), some z => match sizeOf? P e with
      | some n => (partsOf nt (fun i => some (i * n, n)) ps.toList).map (.build D z)
      | none => none
    | _, _ => none
  | .buildSlice t len ps => match elemOf? P t with
    | some (e, n) => match zerosOf P e, partsOf nt (fun i => some (i * n, n)) ps.toList with
      | some z, some ps => if len * n ≤ 1048576 && z.length == n then some (.bslc D e n len ((List.replicate len z).flatten) ps) else none
      | _, _ => none
    | none => none
  | .load t x => match groupOf P t, ax x with
    | some g, some x => some (.load D g x)
    | _, _ => none
  | .store t x y => match sizeOf? P t, ax x, ax y with
    | some n, some x, some y => some (.store n x y)
    | _, _, _ => none
  | .binOp op t x y _ => match ax x, ax y with
    | some a, some b =>
      match op, ekOf P t with
      | .eql, some .i | .eql, some .s | .neq, some .i | .neq, some .s => some (.bin D op a b)
      | .eql, some .b => some (.eq D .b false a b)
      | .neq, some .b => some (.eq D .b true a b)
      | .eql, some (.ag ks) => some (.eq D (.ag ks) false a b)
      | .neq, some (.ag ks) => some (.eq D (.ag ks) true a b)
      | .eql, some k => if Region.isConst x || Region.isConst y then some (.eq D k false a b) else none
      | .neq, some k => if Region.isConst x || Region.isConst y then some (.eq D k true a b) else none
      | .eql, none | .neq, none => none
      | op, _ => some (.bin D op a b)
    | _, _ => none
  | .unOp .not _ x => (ax x).map (.not D)
  | .unOp .neg _ x => (ax x).map (.neg D)
  | .convert s t x => match P.underlying s, P.underlying t with
    | some (.int _), some (.int k) => (ax x).map (.conv D k)
    | some .string, some .string => (ax x).map (.strc D)
    | _, _ => none
  | .makeInterface t x => match P.underlying t with
    | some (.interface _) => none
    | some _ => (ax x).map (.mkif D t)
    | none => none
  | .makeFunc (.func f) first cap => if first.isEmpty then (axsOf nt cap.toList).map (.mkfn D f) else none
  | .makeMap _ none => some (.mkmap D)
  | .makeSlice t l c => match elemOf? P t with
    | some (e, n) => match zerosOf P e, bytesOf? P e, ax l, ax c with
      | some z, some by_, some l, some c => if z.length == n then some (.mkslc D e n by_ z l c) else none
      | _, _, _, _ => none
    | none => none
  | .slice t x lo hi mx => match ax x, axoOf nt lo, axoOf nt hi, axoOf nt mx with
    | some x, some lo, some hi, some mx => match P.underlying t with
      | some .string => if mx.isNone then some (.sub D x lo hi) else none
      | _ => match elemOf? P t with
        | some (_, n) => some (.slc D n x lo hi mx)
        | none => none
    | _, _, _, _ => none
  | .fieldAddr s x f => match P.underlying s, ax x with
    | some (.struct fs), some x => match fs[f]? with
      | some f => match sizeOf? P f.type with
        | some (_ + 1) => some (.fadr D x f.offset)
        | _ => none
      | none => none
    | _, _ => none
  | .field s x f => match P.underlying s, ax x with
    | some (.struct fs), some x => match fs[f]? with
      | some f => match groupOf P f.type with
        | some g => some (.fld D x f.offset g)
        | none => none
      | none => none
    | _, _ => none
  | .indexAddr t x i => match ax x, ax i with
    | some x, some i => match P.underlying t with
      | some (.array n e) => match sizeOf? P e with
        | some (m + 1) => some (.aadr D (m + 1) n x i)
        | _ => none
      | _ => match elemOf? P t with
        | some (_, n) => some (.iadr D n x i)
        | none => none
    | _, _ => none
  | .index t x i => match P.underlying t, ax x, ax i with
    | some .string, some x, some i => some (.idx D x i)
    | _, _, _ => none
  | .lookup t x i ok => match P.underlying t, ax x, ax i with
    | some (.map k e), some x, some i => match ekKey P k, zeroOf P e with
      | some ek, some z => some (.look D ek z x i ok)
      | _, _ => none
    | _, _, _ => none
  | .mapUpdate t m k v | .insert t m k v => match P.underlying t, ax m, ax k, ax v with
    | some (.map kt _), some m, some k, some v => (ekKey P kt).map fun ek => .mset ek m k v
    | _, _, _, _ => none
  | .extract x i => (ax x).map fun x => .ext D x i
  | .nilCheck x => (ax x).map (.nilck D)
  | .call c => match axsOf nt c.args.toList with
    | none => none
    | some args =>
      match c.callee with
      | .value f => (ax f).map fun f => .call d f args
      | .invoke _ _ => none
      | .builtin b =>
        if d.isNone && biLeaves b then none else biOf P d b args c.argTypes.toList
  | _ => none

/-- an operation that is no call, under no guard, no second look -/
def plain : AI → Bool
  | .call .. | .gd .. | .chk .. => false
  | _ => true

def dstEq : Option Pos → Option Pos → Bool
  | none, none => true
  | some p, some q => p.beq q
  | _, _ => false

/-- the same, with calls of function values; the slot is just the operation's own; what is not covered fails where it is met -/
def opOf (P : Program) (nt : Nat) (d : Option Pos) (o : Oper) : Option AI :=
  let known (_ : Unit) : Option AI := match opOf1 P nt d o with
    | some i => if plain i && dstEq i.dst d then some i else some (.bad d)
    | none => some (.bad d)
  match o.op with
  | .call c => match c.callee with
    | .value f => match axOf nt f, axsOf nt c.args.toList with
      | some f, some args => some (.call d f args)
      | _, _ => some (.bad d)
    | _ => known ()
  | .defer _ => none
  | _ => known ()

def operOf (P : Program) (nt : Nat) (ops : Array Oper) (o : Oper) : Option AI :=
  let d? : Option (Option Pos) := match o.dst with
    | none => some none
    | some t => (slot nt t).map some
  match d? with
  | none => none
  | some d => match opOf P nt d o with
    | none => none
    | some i => match o.guard with
      | none => some i
      | some (j, b) => match (ops[j]?).bind (·.dst) with
        | some t => (slot nt t).map fun g => .gd g b d i
        | none => none

def opersOf (P : Program) (nt : Nat) (ops : Array Oper) : List Oper → Option (List AI)
  | [] => some []
  | o :: l => match operOf P nt ops o, opersOf P nt ops l with
    | some i, some l => some (i :: l)
    | _, _ => none

def posOf (nt : Nat) : List Nat → Option (List Pos)
  | [] => some []
  | t :: l => match slot nt t, posOf nt l with
    | some t, some l => some (t :: l)
    | _, _ => none

/-- do all edges that bind point backwards? -/
def backOk (m : Region.Mode) (ops : Array Oper) : Bool :=
  (List.range ops.size).all fun i => match ops[i]? with
    | some o => o.after.all fun e => !Region.binds m e || Nat.blt e.on i
    | none => false

/-- is there an order at all? -/
def acyc (m : Region.Mode) (ops : Array Oper) : Bool := backOk m ops || Nat.beq (Region.linearise m ops 0).length ops.size

def pairsOk (ops : Array Oper) (l : List AI) : Bool :=
  (List.range l.length).all fun j => match ops[j]?, l[j]? with
    | some o, some aj => (List.range j).all fun i => match l[i]? with
      | some ai => comm ai aj || o.after.any fun e => Region.binds .any e && Nat.beq e.on i
      | none => false
    | _, _ => false

/-- edges are on operations of the region -/
def onOk (ops : Array Oper) : Bool := ops.all fun o => o.after.all fun e => Nat.blt e.on ops.size

/-- a region whose order is drawn: each order comes to the same -/
def drawOk (ops : Array Oper) (l : List AI) : Bool := pairsOk ops l && onOk ops && acyc .any ops && acyc .text ops && acyc .gc ops

/-! ### a region whose order is drawn, in one order that stands for all -/
def memN (j : Nat) : List Nat → Bool
  | [] => false
  | i :: l => if Nat.beq j i then true else memN j l
def dirs (ops : Array Oper) (i : Nat) : List Nat := match ops[i]? with
  | some o => (o.after.toList.filter fun e => Region.binds .any e).map (·.on)
  | none => []
def addNew (j : Nat) (l : List Nat) : List Nat := if memN j l then l else j :: l
def addAll : List Nat → List Nat → List Nat
  | [], l => l
  | j :: m, l => addAll m (addNew j l)
def nthL (t : List (List Nat)) (i : Nat) : List Nat := match t[i]? with | some l => l | none => []
def ancs (t : List (List Nat)) : List Nat → List Nat → List Nat
  | [], l => l
  | j :: ds, l => ancs t ds (addAll (nthL t j) (addNew j l))
/-- what each operation waits for, itself or through others -/
def ancT (ops : Array Oper) : Nat → List (List Nat)
  | 0 => []
  | i + 1 => let t := ancT ops i; t ++ [ancs t (dirs ops i) []]

def isNew0 : AI → Bool
  | .alloc .. | .box .. | .bslc .. | .mkmap _ | .mkslc .. => true
  | _ => false
def isNew : AI → Bool
  | .gd _ _ _ op => isNew0 op
  | op => isNew0 op
/-- 0: looks at no block; 1: looks at blocks; 2: makes one; 3: any -/
def kd (i : AI) : Nat := if isNew i then 2 else if Nat.beq i.cls 0 then 0 else if Nat.beq i.cls 1 then 1 else 3
def slotsOk (a b : AI) : Bool := unlike a.dst b.dst && notIn a.dst b.on && notIn b.dst a.on
def ruleK (a b : Nat) : Bool := Nat.beq a 0 || Nat.beq b 0 || Nat.beq a 1 || (Nat.beq a 2 && Nat.beq b 2) || (Nat.beq a 3 && Nat.beq b 2)
def ruleOk (a b : AI) : Bool := slotsOk a b && ruleK (kd a) (kd b)
def lateOk (a b : AI) : Bool := !Nat.beq (kd a) 1 || (unlike a.dst b.dst && notIn b.dst a.on && notIn a.dst a.on)
def pairOk2 (A : List (List Nat)) (is : List AI) (i j : Nat) : Bool := match is[i]?, is[j]? with
  | some a, some b => (memN i (nthL A j) || ruleOk a b) && lateOk a b
  | _, _ => false
def permOk (A : List (List Nat)) (is : List AI) : List Nat → Bool
  | [] => true
  | i :: r => (r.all fun j => pairOk2 A is i j) && permOk A is r
def nodupN : List Nat → Bool
  | [] => true
  | i :: r => !memN i r && nodupN r

def readyL (A : List (List Nat)) (done : List Nat) (i : Nat) : Bool := (nthL A i).all fun j => memN j done
def kdAt (is : List AI) (i : Nat) : Nat := match is[i]? with | some a => kd a | none => 0
def pickN (A : List (List Nat)) (is : List AI) (done cand : List Nat) : Option Nat :=
  match cand.find? fun i => Nat.ble (kdAt is i) 1 && readyL A done i with
  | some i => some i
  | none => match cand.find? fun i => Nat.beq (kdAt is i) 3 && readyL A done i with
    | some i => some i
    | none => cand.find? fun i => readyL A done i
def canonL (A : List (List Nat)) (is : List AI) : Nat → List Nat → List Nat → List Nat
  | 0, _, _ => []
  | f + 1, done, cand => match pickN A is done cand with
    | some i => i :: canonL A is f (i :: done) (cand.filter fun j => !Nat.beq j i)
    | none => []
def cntN (is : List AI) : List Nat → Nat
  | [] => 0
  | i :: l => if Nat.beq (kdAt is i) 2 then cntN is l + 1 else cntN is l
def chksL (A : List (List Nat)) (is : List AI) (j : Nat) : List Nat → List DI
  | [] => []
  | i :: l => match is[i]? with
    | some a => if Nat.beq (kd a) 1 && !memN i (nthL A j) then .chk a :: chksL A is j l else chksL A is j l
    | none => chksL A is j l
def genD (A : List (List Nat)) (is : List AI) : List Nat → List Nat → List DI
  | _, [] => []
  | pre, j :: r => match is[j]? with
    | some a => .op (if Nat.beq (kd a) 2 then some (cntN is pre) else none) a :: ((if Nat.beq (kd a) 3 then chksL A is j pre else []) ++ genD A is (pre ++ [j]) r)
    | none => []
def dOk (ops : Array Oper) (is : List AI) (A : List (List Nat)) (p : List Nat) : Bool :=
  Nat.beq p.length is.length && nodupN p && (p.all fun i => Nat.blt i is.length) && (is.all AI.tidy) && onOk ops && acyc .any ops && acyc .text ops && acyc .gc ops && permOk A is p
def dOf (ops : Array Oper) (is : List AI) : Option (Nat × List DI) :=
  let A := ancT ops ops.size
  let p := canonL A is is.length [] (List.range is.length)
  if dOk ops is A p then some (cntN is p, genD A is [] p) else none

def codeOf (P : Program) (nt : Nat) : Code → Option AC
  | .skip => some .skip
  | .region _ ops draw => match opersOf P nt ops ops.toList with
    | some l => if draw then (if drawOk ops l then some (.ops l) else match dOf ops l with | some (m, dl) => some (.dops m dl) | none => none) else some (.ops l)
    | none => none
  | .seq a b => match codeOf P nt a, codeOf P nt b with
    | some a, some b => some (.seq a b)
    | _, _ => none
  | .cond x a b => match axOf nt x, codeOf P nt a, codeOf P nt b with
    | some x, some a, some b => some (.cond x a b)
    | _, _, _ => none
  | .block id a => (codeOf P nt a).map (.block id)
  | .loop a => (codeOf P nt a).map .loop
  | .exit id => some (.exit id)
  | .ret => some .ret
  | .rangeFunc f ps a b => match axOf nt f, posOf nt ps.toList, codeOf P nt a, codeOf P nt b with
    | some f, some ps, some a, some b => if noRng a && noRng b then some (.rng f ps a b) else none
    | _, _, _, _ => none
  | .scope a => codeOf P nt a
  | _ => none

def resOf (P : Program) (nt : Nat) : List ResultVar → Option (List (Pos × Option (Option Nat)))
  | [] => some []
  | .tmp t :: l => match slot nt t, resOf P nt l with
    | some t, some l => some ((t, none) :: l)
    | _, _ => none
  | .cell t u :: l => match slot nt t, groupOf P u, resOf P nt l with
    | some t, some g, some l => some ((t, some g) :: l)
    | _, _, _ => none

def funcOf (P : Program) (fn : Func) : Option CF :=
  match fn.body with
  | none => none
  | some c => match codeOf P fn.ntmps c, resOf P fn.ntmps fn.results.toList, posOf fn.ntmps (List.range (fn.params.size + fn.nfree)) with
    | some b, some r, some ps => some ⟨ps, r, b⟩
    | _, _, _ => none
end Go.AM
