/- THE ABSTRACT MACHINE (definitions): values, blocks, operations and the run of a function of the program's code, with one canonical course, no tape and no room of slices. Proved sound over the model in the texts behind this one. -/
import GoSem.Core.Code
namespace Go.AM

/-- positive numbers, lowest binary digit first: keys of the tries -/
inductive Pos where
  | h | o (p : Pos) | i (p : Pos)
  deriving Inhabited
namespace Pos
def succ : Pos → Pos
  | .h => .o .h
  | .o p => .i p
  | .i p => .o p.succ
def toNat : Pos → Nat
  | .h => 1
  | .o p => 2 * p.toNat
  | .i p => 2 * p.toNat + 1
def beq : Pos → Pos → Bool
  | .h, .h => true
  | .o p, .o q => beq p q
  | .i p, .i q => beq p q
  | _, _ => false
/-- the number n (from 1 on); `fuel` digits at most -/
def ofNatFuel : Nat → Nat → Pos
  | 0, _ => .h
  | f + 1, n => if n ≤ 1 then .h else if n % 2 = 0 then .o (ofNatFuel f (n / 2)) else .i (ofNatFuel f (n / 2))
/-- the key of slot t -/
def ofSlot (t : Nat) : Pos := ofNatFuel 40 (t + 1)
end Pos

/-- a trie -/
inductive Tr (α : Type) where
  | lf | nd (l : Tr α) (v : Option α) (r : Tr α)
  deriving Inhabited
namespace Tr
variable {α : Type}
def get : Tr α → Pos → Option α
  | .lf, _ => none
  | .nd _ v _, .h => v
  | .nd l _ _, .o p => l.get p
  | .nd _ _ r, .i p => r.get p
def set (x : Option α) : Tr α → Pos → Tr α
  | .lf, .h => .nd .lf x .lf
  | .lf, .o p => .nd (set x .lf p) none .lf
  | .lf, .i p => .nd .lf none (set x .lf p)
  | .nd l _ r, .h => .nd l x r
  | .nd l v r, .o p => .nd (set x l p) v r
  | .nd l v r, .i p => .nd l v (set x r p)
end Tr

/-- values; `unk`: nothing is known; `slc b o n c s ex`: n elements of s cells from cell o of block b on, room for c (ex: just c; else c at least) -/
inductive AV where
  | unk
  | bool (b : Bool)
  | int (k : IntKind) (n : Int)
  | str (s : List Nat)
  | ptr (b : Pos) (o : Nat)
  | nilp
  | slc (b : Pos) (o n c s : Nat) (ex : Bool)
  | nils
  | map (b : Pos)
  | nilm
  | fn (f : FuncId) (cap : List AV)
  | yld (b : Pos)
  | nilf
  | ifc (t : TypeId) (v : AV)
  | nili
  | agg (l : List AV)
  | tup (l : List AV)
  deriving Inhabited

/-- how values of a type are held against each other: bools, whole numbers, strings, structs of these, or against nil -/
inductive EK where
  | b | i | s | ag (l : List EK) | np | nsl | nm | nf | ni
  deriving Inhabited

inductive AX where
  | t (p : Pos) | c (v : AV)
  deriving Inhabited

inductive AI where
  | mov (d : Pos) (x : AX)
  | pick (d : Pos) (c a b : AX)
  | alloc (d : Pos) (e : TypeId) (z : List AV)
  | box (d : Pos) (e : TypeId) (n : Nat) (x : AX)
  | build (d : Pos) (z : List AV) (ps : List (Nat × Nat × AX))
  | bslc (d : Pos) (e : TypeId) (sz len : Nat) (z : List AV) (ps : List (Nat × Nat × AX))
  | load (d : Pos) (g : Option Nat) (x : AX)
  | store (n : Nat) (x y : AX)
  | bin (d : Pos) (op : BinOp) (x y : AX)
  | eq (d : Pos) (k : EK) (neg : Bool) (x y : AX)
  | not (d : Pos) (x : AX)
  | neg (d : Pos) (x : AX)
  | conv (d : Pos) (k : IntKind) (x : AX)
  | strc (d : Pos) (x : AX)
  | mkif (d : Pos) (t : TypeId) (x : AX)
  | mkfn (d : Pos) (f : FuncId) (cap : List AX)
  | mkmap (d : Pos)
  | mkslc (d : Pos) (e : TypeId) (sz by_ : Nat) (z : List AV) (l c : AX)
  | slc (d : Pos) (sz : Nat) (x : AX) (lo hi mx : Option AX)
  | sub (d : Pos) (x : AX) (lo hi : Option AX)
  | fadr (d : Pos) (x : AX) (off : Nat)
  | fld (d : Pos) (x : AX) (off : Nat) (g : Option Nat)
  | iadr (d : Pos) (sz : Nat) (x i : AX)
  | aadr (d : Pos) (sz n : Nat) (x i : AX)
  | idx (d : Pos) (x i : AX)
  | look (d : Pos) (ek : EK) (z : AV) (x i : AX) (ok : Bool)
  | mset (ek : EK) (m k v : AX)
  | mdel (d : Option Pos) (ek : EK) (m k : AX)
  | ext (d : Pos) (x : AX) (i : Nat)
  | len (d : Pos) (k : EK) (x : AX)
  | app (d : Pos) (e : TypeId) (sz by_ : Nat) (x y : AX)
  | copy (d : Option Pos) (sz : Nat) (x y : AX)
  | clear (d : Option Pos) (z : List AV) (x : AX)
  | nilck (d : Pos) (x : AX)
  | call (d : Option Pos) (f : AX) (args : List AX)
  | gd (g : Pos) (b : Bool) (d : Option Pos) (op : AI)
  | chk (d : Pos) (op : AI)
  | bad (d : Option Pos)
  deriving Inhabited

/-- operations of a region whose order is drawn: with the number of the name that its new block bears; or a second look -/
inductive DI where
  | op (q : Option Nat) (i : AI)
  | chk (i : AI)
  deriving Inhabited

inductive AC where
  | skip
  | ops (l : List AI)
  | dops (m : Nat) (l : List DI)
  | seq (a b : AC)
  | cond (x : AX) (a b : AC)
  | block (id : Nat) (a : AC)
  | loop (a : AC)
  | exit (id : Nat)
  | ret
  | rng (f : AX) (ps : List Pos) (asg body : AC)
  deriving Inhabited

/-- is there no loop over a function in it? -/
def noRng : AC → Bool
  | .seq a b => noRng a && noRng b
  | .cond _ a b => noRng a && noRng b
  | .block _ a => noRng a
  | .loop a => noRng a
  | .rng .. => false
  | _ => true

/-- a function: its number of slots, the keys of its first slots (the arguments), its result slots, its body -/
structure CF where
  ps : List Pos
  res : List (Pos × Option (Option Nat))
  body : AC
  deriving Inhabited

inductive LS where
  | ready | busy | done | over
  deriving Inhabited

/-- blocks: a row of cells (element type, class, version, cells, is that all?); a map (in the order of insertion); a loop over a function -/
inductive AB where
  | row (e : TypeId) (c : Pos) (v : Nat) (vs : List AV) (ex : Bool)
  | map (es : List (AV × AV))
  | loop (s : LS) (jump : Option AC) (t : Tr AV) (ps : List Pos) (asg body : AC)
  deriving Inhabited

/-- pk: the next new block bears that name; rs: names kept for later -/
structure AH where
  bl : Tr AB
  cv : Tr (Nat × Pos)
  nx : Pos
  pk : Option Pos
  rs : List (List (Option Pos))
  deriving Inhabited

abbrev AT := Tr AV

def AX.ev (T : AT) : AX → AV
  | .c v => v
  | .t p => match T.get p with
    | some v => v
    | none => .unk

def evs (T : AT) : List AX → List AV
  | [] => []
  | x :: l => x.ev T :: evs T l

def evo (T : AT) : Option AX → Option AV
  | none => none
  | some x => some (x.ev T)

/-- a whole number as one of its kind -/
def wrapA (k : IntKind) (n : Int) : Int :=
  match k with
  | .i64 => let m := n % 18446744073709551616; if m ≥ 9223372036854775808 then m - 18446744073709551616 else m
  | .u64 => n % 18446744073709551616
  | .i32 => let m := n % 4294967296; if m ≥ 2147483648 then m - 4294967296 else m
  | .u32 => n % 4294967296
  | .i16 => let m := n % 65536; if m ≥ 32768 then m - 65536 else m
  | .u16 => n % 65536
  | .i8 => let m := n % 256; if m ≥ 128 then m - 256 else m
  | .u8 => n % 256

def strEq : List Nat → List Nat → Bool
  | [], [] => true
  | a :: x, b :: y => Nat.beq a b && strEq x y
  | _, _ => false
def strLt : List Nat → List Nat → Bool
  | _, [] => false
  | [], _ :: _ => true
  | a :: x, b :: y => if Nat.blt a b then true else if Nat.beq a b then strLt x y else false

def kEq (j k : IntKind) : Bool := decide (j = k)
def intEq (a b : Int) : Bool := decide (a = b)

mutual
/-- are they equal? (none: not known) -/
def eqK : EK → AV → AV → Option Bool
  | .b, .bool a, .bool b => some (a == b)
  | .i, .int j a, .int k b => if kEq j k then some (intEq a b) else none
  | .s, .str a, .str b => some (strEq a b)
  | .ag ks, .agg l, .agg m => eqKs ks l m
  | .np, .nilp, .nilp => some true
  | .np, .ptr .., .nilp => some false
  | .np, .nilp, .ptr .. => some false
  | .nsl, .nils, .nils => some true
  | .nsl, .slc .., .nils => some false
  | .nsl, .nils, .slc .. => some false
  | .nm, .nilm, .nilm => some true
  | .nm, .map _, .nilm => some false
  | .nm, .nilm, .map _ => some false
  | .nf, .nilf, .nilf => some true
  | .nf, .fn .., .nilf => some false
  | .nf, .nilf, .fn .. => some false
  | .ni, .nili, .nili => some true
  | .ni, .ifc .., .nili => some false
  | .ni, .nili, .ifc .. => some false
  | _, _, _ => none
def eqKs : List EK → List AV → List AV → Option Bool
  | [], [], [] => some true
  | k :: ks, x :: l, y :: m => match eqK k x y with
    | some true => eqKs ks l m
    | some false => match eqKs ks l m with
      | some _ => some false
      | none => none
    | none => none
  | _, _, _ => none
end

/-- digits in base two -/
def modN : IntKind → Nat
  | .i8 | .u8 => 256
  | .i16 | .u16 => 65536
  | .i32 | .u32 => 4294967296
  | .i64 | .u64 => 18446744073709551616
def bitsN : IntKind → Nat
  | .i8 | .u8 => 8
  | .i16 | .u16 => 16
  | .i32 | .u32 => 32
  | .i64 | .u64 => 64
def ubits (k : IntKind) (a : Int) : Nat := (a % (modN k : Int)).toNat
def shiftV (op : BinOp) (j : IntKind) (a b : Int) : Option AV :=
  if b < 0 then none else
  match op with
  | .shl => some (.int j (wrapA j (a * ((2 ^ min b.toNat (bitsN j) : Nat) : Int))))
  | .shr => some (.int j (a.fdiv ((2 ^ min b.toNat (bitsN j) : Nat) : Int)))
  | _ => none
def isShift : BinOp → Bool
  | .shl | .shr => true
  | _ => false

def ibin (op : BinOp) (k : IntKind) (a b : Int) : Option AV :=
  match op with
  | .add => some (.int k (wrapA k (a + b)))
  | .sub => some (.int k (wrapA k (a - b)))
  | .mul => some (.int k (wrapA k (a * b)))
  | .quo => if intEq b 0 then none else some (.int k (wrapA k (a.tdiv b)))
  | .rem => if intEq b 0 then none else some (.int k (a.tmod b))
  | .eql => some (.bool (intEq a b))
  | .neq => some (.bool (!intEq a b))
  | .lss => some (.bool (decide (a < b)))
  | .leq => some (.bool (decide (a ≤ b)))
  | .gtr => some (.bool (decide (b < a)))
  | .geq => some (.bool (decide (b ≤ a)))
  | .and => some (.int k (wrapA k (Nat.land (ubits k a) (ubits k b) : Nat)))
  | .or => some (.int k (wrapA k (Nat.lor (ubits k a) (ubits k b) : Nat)))
  | .xor => some (.int k (wrapA k (Nat.xor (ubits k a) (ubits k b) : Nat)))
  | .andNot => some (.int k (wrapA k (Nat.land (ubits k a) (modN k - 1 - ubits k b) : Nat)))
  | _ => none

def sbin (op : BinOp) (a b : List Nat) : Option AV :=
  match op with
  | .add => if Nat.ble (a.length + b.length) 1000000000 then some (.str (a ++ b)) else none
  | .eql => some (.bool (strEq a b))
  | .neq => some (.bool (!strEq a b))
  | .lss => some (.bool (strLt a b))
  | .gtr => some (.bool (strLt b a))
  | .leq => some (.bool (!strLt b a))
  | .geq => some (.bool (!strLt a b))
  | _ => none

def binV (op : BinOp) (x y : AV) : Option AV :=
  match x, y with
  | .int j a, .int k b => if isShift op then shiftV op j a b else if kEq j k then ibin op j a b else none
  | .str a, .str b => sbin op a b
  | _, _ => none

/-- the cells of a value -/
def cellsOf : AV → Option (List AV)
  | .agg l => some l
  | .unk => none
  | .tup _ => none
  | v => some [v]

def putAt (vs : List AV) : List AV → Nat → List AV
  | old, 0 => over vs old
  | [], _ + 1 => []
  | a :: old, n + 1 => a :: putAt vs old n
where
  over : List AV → List AV → List AV
    | [], old => old
    | _ :: _, [] => []
    | v :: vs, _ :: old => v :: over vs old

/-- put parts (place, size, value) into cells -/
def fillA (cells : List AV) : List (Nat × Nat × AV) → Option (List AV)
  | [] => some cells
  | (o, n, v) :: l => match cellsOf v with
    | some c => if Nat.beq c.length n && Nat.ble (o + n) cells.length then fillA (putAt c cells o) l else none
    | none => none
def evps (T : AT) : List (Nat × Nat × AX) → List (Nat × Nat × AV)
  | [] => []
  | (o, n, x) :: l => (o, n, x.ev T) :: evps T l

def AH.cls (H : AH) (c : Pos) : Nat × Pos :=
  match H.cv.get c with
  | some x => x
  | none => (0, c)

/-- a row that may be read -/
def AH.row? (H : AH) (b : Pos) : Option (TypeId × Pos × Nat × List AV × Bool) :=
  match H.bl.get b with
  | some (.row e c v vs ex) => if Nat.beq (H.cls c).1 v then some (e, c, v, vs, ex) else none
  | _ => none

def slice? (vs : List AV) (o n : Nat) : Option (List AV) :=
  let l := (vs.drop o).take n
  if Nat.beq l.length n then some l else none

def AH.read (H : AH) (b : Pos) (o n : Nat) : Option (List AV) :=
  match H.row? b with
  | some (_, _, _, vs, _) => slice? vs o n
  | none => none

/-- write cells into a row: other rows of its class are not known any more -/
def AH.write (H : AH) (b : Pos) (o : Nat) (l : List AV) : Option AH :=
  match H.row? b with
  | some (e, c, v, vs, ex) =>
    if Nat.ble (o + l.length) vs.length then
      let vs' := putAt l vs o
      if c.beq b then
        if (H.cls c).2.beq b then some { H with bl := H.bl.set (some (.row e c v vs' ex)) b }
        else some { H with bl := H.bl.set (some (.row e c (v + 1) vs' ex)) b, cv := H.cv.set (some (v + 1, b)) c }
      else match H.cv.get b with
        | some _ => none
        | none => some { H with bl := H.bl.set (some (.row e b 0 vs' ex)) b, cv := H.cv.set (some (v + 1, c)) c }
    else none
  | none => none

/-- the next new block's name -/
def AH.nm (H : AH) : Pos := match H.pk with | some r => r | none => H.nx
def AH.new (H : AH) (x : AB) : Pos × AH := match H.pk with
  | some r => (r, { H with bl := H.bl.set (some x) r, pk := none })
  | none => (H.nx, { H with bl := H.bl.set (some x) H.nx, nx := H.nx.succ })
def AH.newRow (H : AH) (e : TypeId) (vs : List AV) (ex : Bool) : Pos × AH := H.new (.row e H.nm 0 vs ex)

/-- append behind n elements of size sz from cell o of block b on, whose room is c (ex: just c) -/
def AH.append (H : AH) (e : TypeId) (sz : Nat) (b : Pos) (o n c : Nat) (ex : Bool) (m : Nat) (news : List AV) : Option (AV × AH) :=
  match H.row? b with
  | some (e', cl, v, vs, exr) =>
    if !Nat.beq e' e then none else
    match slice? vs o (n * sz) with
    | none => none
    | some old =>
      if Nat.ble (n + m) c then
        -- surely in place
        match H.write b (o + n * sz) news with
        | some H => some (.slc b o (n + m) c sz ex, H)
        | none => none
      else if ex then
        -- surely anew
        let (b', H) := H.newRow e (old ++ news) false
        some (.slc b' 0 (n + m) (n + m) sz false, H)
      else if exr then none
      else if !Nat.beq (o + n * sz) vs.length then none
      else
        -- in place, or anew: a row of the same class
        let (v0, top) := H.cls cl
        if top.beq b then
          let b' := H.nx
          some (.slc b' 0 (n + m) (n + m) sz false,
            { H with bl := H.bl.set (some (.row e cl v (old ++ news) false)) b', cv := H.cv.set (some (v0, b')) cl, nx := b'.succ })
        else
          let b' := H.nx
          some (.slc b' 0 (n + m) (n + m) sz false,
            { H with bl := (H.bl.set (some (.row e cl (v0 + 1) vs exr)) b).set (some (.row e cl (v0 + 1) (old ++ news) false)) b', cv := H.cv.set (some (v0 + 1, b')) cl, nx := b'.succ })
  | none => none

/-- bytes as cells -/
def byteCells : List Nat → List AV
  | [] => []
  | b :: l => .int .u8 b :: byteCells l

/-- what a slice or a string holds, n elements of size sz -/
def AH.elems (H : AH) (sz : Nat) : AV → Option (Nat × List AV)
  | .nils => some (0, [])
  | .slc b o n _ _ _ => match H.read b o (n * sz) with
    | some l => some (n, l)
    | none => none
  | .str s => if Nat.beq sz 1 then some (s.length, byteCells s) else none
  | _ => none

def AT.put (T : AT) (d : Pos) (v : AV) : AT := Tr.set (some v) T d

/-- what a read of one cell, or of n cells taken together, gives -/
def AH.loadG (H : AH) (g : Option Nat) : AV → Option AV
  | .ptr b o => match g with
    | none => match H.read b o 1 with
      | some [v] => some v
      | _ => none
    | some n => match H.read b o n with
      | some l => some (.agg l)
      | none => none
  | _ => none

def asNat? : AV → Option Nat
  | .int _ n => if 0 ≤ n then some n.toNat else none
  | _ => none

/-- append to a value -/
def AH.appendTo (H : AH) (e : TypeId) (sz by_ : Nat) (x : AV) (m : Nat) (news : List AV) : Option (AV × AH) :=
  match x with
  | .nils => if Nat.beq m 0 then some (.nils, H) else
      if Nat.ble m 1073741824 && Nat.ble (m * by_) 1073741824 then
        let (b, H) := H.newRow e news false
        some (.slc b 0 m m sz false, H)
      else none
  | .slc b o n c s ex => if !Nat.beq s sz then none else if Nat.beq m 0 then some (.slc b o n c s ex, H) else
      if Nat.ble (n + m) 1073741824 && Nat.ble ((n + m) * by_) 1073741824 then H.append e sz b o n c ex m news else none
  | _ => none

/-- copy to a value -/
def AH.copyTo (H : AH) (sz : Nat) (x : AV) (m : Nat) (news : List AV) : Option (AV × AH) :=
  match x with
  | .nils => some (.int .i64 0, H)
  | .slc b o n _ _ _ => match H.write b o (news.take (min m n * sz)) with
    | some H => some (.int .i64 (min m n : Nat), H)
    | none => none
  | _ => none

def bound? (dflt : Nat) (most : Nat) : Option AV → Option Nat
  | none => some dflt
  | some v => match asNat? v with
    | some n => if Nat.ble n most then some n else none
    | none => none

/-- s[lo:hi:mx] of a slice -/
def sliceA (sz : Nat) (x : AV) (lo hi mx : Option AV) : Option AV :=
  match x with
  | .slc b o n c s ex =>
    if !Nat.beq s sz then none else
    match mx with
    | none =>
      match bound? n c hi with
      | none => none
      | some h => match bound? 0 h lo with
        | none => none
        | some l => some (.slc b (o + l * sz) (h - l) (c - l) sz ex)
    | some _ =>
      match bound? c c mx with
      | none => none
      | some m => match hi with
        | none => none
        | some _ => match bound? n m hi with
          | none => none
          | some h => match bound? 0 h lo with
            | none => none
            | some l => some (.slc b (o + l * sz) (h - l) (m - l) sz true)
  | .nils =>
    match mx with
    | some _ => match hi with
      | none => none
      | some _ => match bound? 0 0 mx with
        | none => none
        | some _ => match bound? 0 0 hi with
          | none => none
          | some _ => match bound? 0 0 lo with
            | none => none
            | some _ => some .nils
    | none => match bound? 0 0 hi, bound? 0 0 lo with
      | some _, some _ => some .nils
      | _, _ => none
  | _ => none

/-- has a key its type's number of cells? -/
def okKey : EK → AV → Bool
  | .ag ks, .agg l => Nat.beq l.length ks.length
  | .ag _, _ => false
  | _, _ => true

def findE (ek : EK) (k : AV) : List (AV × AV) → Option (Option AV)
  | [] => some none
  | (a, v) :: l => match eqK ek k a with
    | some true => some (some v)
    | some false => findE ek k l
    | none => none
def setE (ek : EK) (k v : AV) : List (AV × AV) → Option (List (AV × AV))
  | [] => some [(k, v)]
  | (a, u) :: l => match eqK ek k a with
    | some true => some ((k, v) :: l)
    | some false => match setE ek k v l with
      | some l => some ((a, u) :: l)
      | none => none
    | none => none
def delE (ek : EK) (k : AV) : List (AV × AV) → Option (List (AV × AV))
  | [] => some []
  | (a, u) :: l => match eqK ek k a with
    | some true => some l
    | some false => match delE ek k l with
      | some l => some ((a, u) :: l)
      | none => none
    | none => none

def nthV : List AV → Nat → Option AV
  | [], _ => none
  | v :: _, 0 => some v
  | _ :: l, n + 1 => nthV l n
def nthN : List Nat → Nat → Option Nat
  | [], _ => none
  | v :: _, 0 => some v
  | _ :: l, n + 1 => nthN l n

/-- what a map holds at a key -/
def AH.lookE (H : AH) (ek : EK) (x i : AV) : Option (Option AV) :=
  match x with
  | .nilm => some none
  | .map b => match H.bl.get b with
    | some (.map es) => findE ek i es
    | _ => none
  | _ => none

/-- one operation that is no call: what it leaves in its slot, and the heap -/
def val (T : AT) (H : AH) : AI → Option (AV × AH)
  | .mov _ x => some (x.ev T, H)
  | .pick _ c a b => match c.ev T with
    | .bool true => some (a.ev T, H)
    | .bool false => some (b.ev T, H)
    | _ => none
  | .alloc _ e z => let (b, H) := H.newRow e z true; some (.ptr b 0, H)
  | .box _ e n x =>
    match cellsOf (x.ev T) with
    | some c => if Nat.beq c.length n then let (b, H) := H.newRow e c true; some (.ptr b 0, H) else none
    | none => none
  | .build _ z ps => match fillA z (evps T ps) with
    | some c => some (.agg c, H)
    | none => none
  | .bslc _ e sz len z ps => match fillA z (evps T ps) with
    | some c => let (b, H) := H.newRow e c true; some (.slc b 0 len len sz true, H)
    | none => none
  | .load _ g x => match H.loadG g (x.ev T) with
    | some v => some (v, H)
    | none => none
  | .bin _ op x y => match binV op (x.ev T) (y.ev T) with
    | some v => some (v, H)
    | none => none
  | .eq _ k neg x y => match eqK k (x.ev T) (y.ev T) with
    | some b => some (.bool (b != neg), H)
    | none => none
  | .not _ x => match x.ev T with
    | .bool b => some (.bool !b, H)
    | _ => none
  | .neg _ x => match x.ev T with
    | .int k n => some (.int k (wrapA k (0 - n)), H)
    | _ => none
  | .conv _ k x => match x.ev T with
    | .int _ n => some (.int k (wrapA k n), H)
    | _ => none
  | .strc _ x => match x.ev T with
    | .str s => some (.str s, H)
    | _ => none
  | .mkif _ t x => match x.ev T with
    | .unk => none
    | v => some (.ifc t v, H)
  | .mkfn _ f cap => some (.fn f (evs T cap), H)
  | .mkmap _ => let (b, H) := H.new (.map []); some (.map b, H)
  | .mkslc _ e sz by_ z l c => match asNat? (l.ev T), asNat? (c.ev T) with
    | some n, some m => if Nat.ble n m && Nat.ble m 1048576 && Nat.ble (m * by_) 1048576 then
        let (b, H) := H.newRow e ((List.replicate m z).flatten) true
        some (.slc b 0 n m sz true, H)
      else none
    | _, _ => none
  | .slc _ sz x lo hi mx => match sliceA sz (x.ev T) (evo T lo) (evo T hi) (evo T mx) with
    | some v => some (v, H)
    | none => none
  | .sub _ x lo hi => match x.ev T with
    | .str s => match bound? s.length s.length (evo T hi) with
      | some h => match bound? 0 h (evo T lo) with
        | some l => some (.str ((s.take h).drop l), H)
        | none => none
      | none => none
    | _ => none
  | .fadr _ x off => match x.ev T with
    | .ptr b o => some (.ptr b (o + off), H)
    | _ => none
  | .fld _ x off g => match x.ev T with
    | .agg l => match g with
      | none => match nthV l off with
        | some v => some (v, H)
        | none => none
      | some n => match slice? l off n with
        | some l => some (.agg l, H)
        | none => none
    | _ => none
  | .iadr _ sz x i => match x.ev T, asNat? (i.ev T) with
    | .slc b o n _ _ _, some k => if Nat.blt k n then some (.ptr b (o + k * sz), H) else none
    | _, _ => none
  | .aadr _ sz n x i => match x.ev T, asNat? (i.ev T) with
    | .ptr b o, some k => if Nat.blt k n then some (.ptr b (o + k * sz), H) else none
    | _, _ => none
  | .idx _ x i => match x.ev T, asNat? (i.ev T) with
    | .str s, some k => match nthN s k with
      | some b => some (.int .u8 b, H)
      | none => none
    | _, _ => none
  | .look _ ek z x i ok =>
    if !okKey ek (i.ev T) then none else
    match H.lookE ek (x.ev T) (i.ev T) with
    | some (some v) => some (if ok then .tup [v, .bool true] else v, H)
    | some none => some (if ok then .tup [z, .bool false] else z, H)
    | none => none
  | .mset ek m k v => if !okKey ek (k.ev T) then none else match m.ev T with
    | .map b => match H.bl.get b with
      | some (.map es) => match setE ek (k.ev T) (v.ev T) es with
        | some es => some (.unk, { H with bl := H.bl.set (some (.map es)) b })
        | none => none
      | _ => none
    | _ => none
  | .mdel _ ek m k => if !okKey ek (k.ev T) then none else match m.ev T with
    | .nilm => some (.unk, H)
    | .map b => match H.bl.get b with
      | some (.map es) => match delE ek (k.ev T) es with
        | some es => some (.unk, { H with bl := H.bl.set (some (.map es)) b })
        | none => none
      | _ => none
    | _ => none
  | .ext _ x i => match x.ev T with
    | .tup l => match nthV l i with
      | some v => some (v, H)
      | none => none
    | _ => none
  | .len _ k x => match k, x.ev T with
    | .s, .str s => some (.int .i64 s.length, H)
    | .nsl, .nils => some (.int .i64 0, H)
    | .nsl, .slc _ _ n _ _ _ => some (.int .i64 n, H)
    | .nm, .nilm => some (.int .i64 0, H)
    | .nm, .map b => match H.bl.get b with
      | some (.map es) => some (.int .i64 es.length, H)
      | _ => none
    | _, _ => none
  | .app _ e sz by_ x y => match H.elems sz (y.ev T) with
    | none => none
    | some (m, news) => H.appendTo e sz by_ (x.ev T) m news
  | .copy _ sz x y => match H.elems sz (y.ev T) with
    | none => none
    | some (m, news) => H.copyTo sz (x.ev T) m news
  | .clear _ z x => match x.ev T with
    | .nils => some (.unk, H)
    | .nilm => some (.unk, H)
    | .slc b o n _ _ _ => if Nat.beq n 0 then some (.unk, H) else match H.write b o ((List.replicate n z).flatten) with
        | some H => some (.unk, H)
        | none => none
    | _ => none
  | .nilck _ x => match x.ev T with
    | .ptr b o => some (.ptr b o, H)
    | .fn f c => some (.fn f c, H)
    | _ => none
  | .store n x y => match x.ev T with
    | .ptr b o =>
      match cellsOf (y.ev T) with
      | some c => if Nat.beq c.length n then match H.write b o c with
          | some H => some (.unk, H)
          | none => none
        else none
      | none => none
    | _ => none
  | _ => none

def AI.dst : AI → Option Pos
  | .mov d _ | .pick d .. | .alloc d .. | .box d .. | .build d .. | .bslc d .. | .load d .. | .bin d .. | .eq d .. | .not d _ | .neg d _ | .conv d .. | .strc d .. | .mkif d .. | .mkfn d ..
  | .mkmap d | .mkslc d .. | .slc d .. | .sub d .. | .fadr d .. | .fld d .. | .iadr d .. | .aadr d .. | .idx d .. | .look d .. | .ext d .. | .len d ..
  | .app d .. | .nilck d .. | .chk d _ => some d
  | .mdel d .. | .copy d .. | .clear d .. => d
  | .store .. | .mset .. => none
  | .call d .. => d
  | .gd _ _ d _ => d
  | .bad d => d

def AX.on : AX → List Pos
  | .t p => [p]
  | .c _ => []
def onL : List AX → List Pos
  | [] => []
  | x :: l => x.on ++ onL l
def onO : Option AX → List Pos
  | none => []
  | some x => x.on
def onP : List (Nat × Nat × AX) → List Pos
  | [] => []
  | (_, _, x) :: l => x.on ++ onP l

/-- the slots that an operation looks at -/
def AI.on : AI → List Pos
  | .mov _ x | .box _ _ _ x | .load _ _ x | .not _ x | .neg _ x | .conv _ _ x | .strc _ x | .mkif _ _ x | .fadr _ x _ | .fld _ x _ _ | .ext _ x _ | .len _ _ x | .clear _ _ x | .nilck _ x => x.on
  | .pick _ c a b => c.on ++ (a.on ++ b.on)
  | .alloc .. | .mkmap _ | .bad _ => []
  | .build _ _ ps | .bslc _ _ _ _ _ ps => onP ps
  | .store _ x y | .bin _ _ x y | .eq _ _ _ x y | .iadr _ _ x y | .aadr _ _ _ x y | .idx _ x y | .look _ _ _ x y _ | .mdel _ _ x y | .app _ _ _ _ x y | .copy _ _ x y => x.on ++ y.on
  | .mkfn _ _ cap => onL cap
  | .mkslc _ _ _ _ _ l c => l.on ++ c.on
  | .slc _ _ x lo hi mx => x.on ++ (onO lo ++ (onO hi ++ onO mx))
  | .sub _ x lo hi => x.on ++ (onO lo ++ onO hi)
  | .mset _ m k v => m.on ++ (k.on ++ v.on)
  | .call _ f args => f.on ++ onL args
  | .gd g _ _ op => g :: op.on
  | .chk d op => d :: op.on

/-- 0: looks at no block; 1: looks, and changes none; 2: any -/
def AI.cls : AI → Nat
  | .mov .. | .pick .. | .build .. | .bin .. | .eq .. | .not .. | .neg .. | .conv .. | .strc .. | .mkif .. | .mkfn .. | .slc .. | .sub .. | .fadr .. | .fld .. | .iadr .. | .aadr .. | .idx .. | .ext .. | .nilck .. | .bad _ => 0
  | .load .. | .look .. | .len .. => 1
  | .gd _ _ _ op => op.cls
  | _ => 2

def notIn (d : Option Pos) (l : List Pos) : Bool :=
  match d with
  | none => true
  | some d => l.all fun p => !p.beq d

def unlike : Option Pos → Option Pos → Bool
  | some a, some b => !a.beq b
  | _, _ => true

def AI.tidy : AI → Bool
  | .gd _ _ d op => match op with
    | .gd .. | .chk .. => false
    | op => match op.dst, d with
      | some p, some q => p.beq q
      | none, none => true
      | _, _ => false
  | .chk .. => false
  | _ => true

/-- two operations that may change places -/
def comm (i j : AI) : Bool :=
  i.tidy && j.tidy && unlike i.dst j.dst && notIn i.dst j.on && notIn j.dst i.on && (Nat.beq i.cls 0 || Nat.beq j.cls 0 || (Nat.ble i.cls 1 && Nat.ble j.cls 1))

inductive R where
  | bad
  | fin (T : AT) (H : AH)
  | ex (id : Nat) (T : AT) (H : AH)
  | ret (T : AT) (H : AH)
  deriving Inhabited

def putArgs (T : AT) : List Pos → List AV → Option AT
  | [], [] => some T
  | p :: ps, v :: vs => putArgs (T.put p v) ps vs
  | _, _ => none

def putO (T : AT) (d : Option Pos) (v : AV) : AT :=
  match d with
  | some d => T.put d v
  | none => T

def resultL (T : AT) (H : AH) : List (Pos × Option (Option Nat)) → Option (List AV)
  | [] => some []
  | (p, g) :: l =>
    match (match g with
      | none => some ((AX.t p).ev T)
      | some g => H.loadG g ((AX.t p).ev T)), resultL T H l with
    | some v, some l => some (v :: l)
    | _, _ => none

def results (T : AT) (H : AH) (l : List (Pos × Option (Option Nat))) : Option AV :=
  match resultL T H l with
  | some [v] => some v
  | some vs => some (.tup vs)
  | none => none

mutual
def same : AV → AV → Bool
  | .bool a, .bool b => a == b
  | .int j a, .int k b => kEq j k && intEq a b
  | .str a, .str b => strEq a b
  | .ptr a o, .ptr b p => a.beq b && Nat.beq o p
  | .nilp, .nilp => true
  | .slc b o n c s e, .slc b' o' n' c' s' e' => b.beq b' && Nat.beq o o' && Nat.beq n n' && Nat.beq c c' && Nat.beq s s' && e == e'
  | .nils, .nils => true
  | .map a, .map b => a.beq b
  | .nilm, .nilm => true
  | .fn f c, .fn g d => Nat.beq f g && sameL c d
  | .nilf, .nilf => true
  | .ifc t a, .ifc u b => Nat.beq t u && same a b
  | .nili, .nili => true
  | .agg a, .agg b => sameL a b
  | .tup a, .tup b => sameL a b
  | _, _ => false
def sameL : List AV → List AV → Bool
  | [], [] => true
  | a :: l, b :: m => same a b && sameL l m
  | _, _ => false
end

/-- results of a round that is over: the pending jump -/
def jumpOf : R → Option (Option AC × AH)
  | .fin _ H => some (none, H)
  | .ret _ H => some (some .ret, H)
  | .ex id _ H => some (some (.exit id), H)
  | .bad => none

/-- one operation -/
def exec1 (call : AV → List AV → AH → Option (AV × AH)) (i : AI) (T : AT) (H : AH) : Option (AT × AH) :=
  match i with
  | .call d f args => match call (f.ev T) (evs T args) H with
    | some (v, H) => some (putO T d v, H)
    | none => none
  | .gd g b d op => match (AX.t g).ev T with
    | .bool x => if x == b then
        match op with
        | .call d f args => match call (f.ev T) (evs T args) H with
          | some (v, H) => some (putO T d v, H)
          | none => none
        | op => match val T H op with
          | some (v, H) => some (putO T op.dst v, H)
          | none => none
      else some (putO T d (.tup []), H)
    | .tup [] => some (putO T d (.tup []), H)
    | _ => none
  | .chk d op => match val T H op with
    | some (v, _) => if same v ((AX.t d).ev T) then some (T, H) else none
    | none => none
  | op => match val T H op with
    | some (v, H) => some (putO T op.dst v, H)
    | none => none

/-- operations one behind the other -/
def execOps (call : AV → List AV → AH → Option (AV × AH)) : List AI → AT → AH → R
  | [], T, H => .fin T H
  | i :: l, T, H => match exec1 call i T H with
    | some (T, H) => execOps call l T H
    | none => .bad

/-! ### operations whose order is drawn: new blocks bear names that are kept for them -/
def names : Nat → Pos → List (Option Pos)
  | 0, _ => []
  | m + 1, p => some p :: names m p.succ
def skip : Nat → Pos → Pos
  | 0, p => p
  | m + 1, p => skip m p.succ
def takeN : List (Option Pos) → Nat → Option (Pos × List (Option Pos))
  | some r :: l, 0 => some (r, none :: l)
  | o :: l, n + 1 => match takeN l n with
    | some (r, l) => some (r, o :: l)
    | none => none
  | _, _ => none
def AH.reserve (H : AH) (m : Nat) : AH := { H with nx := skip m H.nx, rs := names m H.nx :: H.rs }
def AH.arm (H : AH) (q : Nat) : Option AH :=
  match H.rs with
  | f :: rs => match takeN f q with
    | some (r, f) => some { H with pk := some r, rs := f :: rs }
    | none => none
  | [] => none
def AH.disarm (H : AH) : AH := { H with pk := none }
def AH.pop (H : AH) : AH := { H with rs := H.rs.tail }

def chk0 (T : AT) (H : AH) (op : AI) : Bool :=
  match op.dst with
  | some d => match val T H op with
    | some (v, _) => same v ((AX.t d).ev T)
    | none => false
  | none => false
def chkOk (T : AT) (H : AH) : AI → Bool
  | .gd g b _ op => match (AX.t g).ev T with
    | .bool x => if x == b then chk0 T H op else true
    | .tup [] => true
    | _ => false
  | op => chk0 T H op
def execD1 (call : AV → List AV → AH → Option (AV × AH)) (d : DI) (T : AT) (H : AH) : Option (AT × AH) :=
  match d with
  | .op q i => match q with
    | none => exec1 call i T H
    | some q => match H.arm q with
      | some H => match exec1 call i T H with
        | some (T, H) => some (T, H.disarm)
        | none => none
      | none => none
  | .chk i => if chkOk T H i then some (T, H) else none
def execD (call : AV → List AV → AH → Option (AV × AH)) : List DI → AT → AH → R
  | [], T, H => .fin T H
  | d :: l, T, H => match execD1 call d T H with
    | some (T, H) => execD call l T H
    | none => .bad

/-- a call. run: the run of code; tab: the functions; ext: those without a body -/
def callWith (run : AC → AT → AH → R) (tab : FuncId → Option CF) (ext : FuncId → List AV → Option AV) (f : AV) (args : List AV) (H : AH) : Option (AV × AH) :=
  match f with
  | .fn g cap => match tab g with
    | some cf => match putArgs .lf cf.ps (args ++ cap) with
      | some T0 => match run cf.body T0 H with
        | .ret T H => match results T H cf.res with
          | some v => some (v, H)
          | none => none
        | .fin T H => match results T H cf.res with
          | some v => some (v, H)
          | none => none
        | _ => none
      | none => none
    | none => match ext g (args ++ cap) with
      | some v => some (v, H)
      | none => none
  | .yld b => match H.bl.get b with
    | some (.loop .ready none T0 ps asg body) => match putArgs T0 ps args with
      | some T1 => match run asg T1 H with
        | .fin T1 H => match H.bl.get b with
          | some (.loop .ready none T0' ps' asg' body') =>
            match jumpOf (run body T1 { H with bl := H.bl.set (some (.loop .busy none T0' ps' asg' body')) b }) with
            | some (j, H) => match H.bl.get b with
              | some (.loop .busy _ T0' ps' asg' body') => match j with
                | none => some (.bool true, { H with bl := H.bl.set (some (.loop .ready none T0' ps' asg' body')) b })
                | some j => some (.bool false, { H with bl := H.bl.set (some (.loop .done (some j) T0' ps' asg' body')) b })
              | _ => none
            | none => none
          | _ => none
        | _ => none
      | none => none
    | _ => none
  | _ => none

/-- the run of a piece of code, `n` deep at most -/
def exec (tab : FuncId → Option CF) (ext : FuncId → List AV → Option AV) : Nat → AC → AT → AH → R
  | 0, _, _, _ => .bad
  | n + 1, c, T, H =>
    match c with
    | .skip => .fin T H
    | .ops l => execOps (callWith (exec tab ext n) tab ext) l T H
    | .dops m l => match H.pk with
      | none => match execD (callWith (exec tab ext n) tab ext) l T (H.reserve m) with
        | .fin T H => .fin T H.pop
        | _ => .bad
      | some _ => .bad
    | .seq a b => match exec tab ext n a T H with
      | .fin T H => exec tab ext n b T H
      | r => r
    | .cond x a b => match x.ev T with
      | .bool true => exec tab ext n a T H
      | .bool false => exec tab ext n b T H
      | _ => .bad
    | .block id a => match exec tab ext n a T H with
      | .ex j T H => if Nat.beq j id then .fin T H else .ex j T H
      | r => r
    | .loop a => match exec tab ext n a T H with
      | .fin T H => exec tab ext n (.loop a) T H
      | r => r
    | .exit id => .ex id T H
    | .ret => .ret T H
    | .rng f ps asg body =>
      match callWith (exec tab ext n) tab ext (f.ev T) [.yld H.nm] (H.new (.loop .ready none T ps asg body)).2 with
      | some (_, H') => match H'.bl.get H.nm with
        | some (.loop s j _ _ _ _) => match s with
          | .busy => .bad
          | _ => match j with
            | none => .fin T { H' with bl := H'.bl.set none H.nm }
            | some c => match c with
              | .exit id => exec tab ext n (.exit id) T { H' with bl := H'.bl.set none H.nm }
              | .ret => exec tab ext n .ret T { H' with bl := H'.bl.set none H.nm }
              | _ => .bad
        | _ => .bad
      | none => .bad
end Go.AM
