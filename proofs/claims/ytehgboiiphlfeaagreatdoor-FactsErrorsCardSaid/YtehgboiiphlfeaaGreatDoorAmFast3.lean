/- THE ABSTRACT MACHINE, ARRANGED FOR THE KERNEL: operations. -/
import Derived.Test.YtehgboiiphlfeaaGreatDoorAmFast2
namespace Go.AM.F
open Go Go.AM

def handB (o : Option Bool) (q : Bool → R) : R := match o with | some b => q b | none => .bad
noncomputable def eqBF (x y : AV) (q : Bool → R) : R :=
  match x with
  | .bool a => match y with
    | .bool b => q (Bool.rec (motive := fun _ => Bool) (notB b) b a)
    | _ => .bad
  | _ => .bad
noncomputable def eqIF (x y : AV) (q : Bool → R) : R :=
  match x with
  | .int j a => match y with
    | .int k b => Bool.rec (motive := fun _ => R) .bad (q (eqF a b)) (kEqF j k)
    | _ => .bad
  | _ => .bad
noncomputable def eqSF (x y : AV) (q : Bool → R) : R :=
  match x with
  | .str a => match y with
    | .str b => q (strEqF a b)
    | _ => .bad
  | _ => .bad
theorem eqBF_eq (x y q) : eqBF x y q = handB (eqK .b x y) q := by
  cases x
  case bool a =>
    cases y
    case bool b => cases a <;> cases b <;> rfl
    all_goals rfl
  all_goals rfl
theorem eqIF_eq (x y q) : eqIF x y q = handB (eqK .i x y) q := by
  cases x
  case int j a =>
    cases y
    case int k b =>
      show Bool.rec (motive := fun _ => R) R.bad (q (eqF a b)) (kEqF j k) = _
      simp only [kEqF_eq, eqF_eq, eqK]
      cases kEq j k <;> rfl
    all_goals rfl
  all_goals rfl
theorem eqSF_eq (x y q) : eqSF x y q = handB (eqK .s x y) q := by
  cases x
  case str a =>
    cases y
    case str b => exact congrArg q (strEqF_eq a b)
    all_goals rfl
  all_goals rfl
/-- no struct in it -/
noncomputable def eq1F (k : EK) (x y : AV) (q : Bool → R) : R :=
  match k with
  | .b => eqBF x y q
  | .i => eqIF x y q
  | .s => eqSF x y q
  | k => handB (eqK k x y) q
theorem eq1F_eq (k x y q) : eq1F k x y q = handB (eqK k x y) q := by
  cases k
  case b => exact eqBF_eq x y q
  case i => exact eqIF_eq x y q
  case s => exact eqSF_eq x y q
  all_goals rfl
noncomputable def eqsF (ks : List EK) : List AV → List AV → (Bool → R) → R :=
  List.rec (motive := fun _ => List AV → List AV → (Bool → R) → R)
    (fun l m q => List.rec (motive := fun _ => R) (List.rec (motive := fun _ => R) (q true) (fun _ _ _ => .bad) m) (fun _ _ _ => .bad) l)
    (fun k _ ih l m q => List.rec (motive := fun _ => R) .bad (fun x l _ => List.rec (motive := fun _ => R) .bad (fun y m _ => eq1F k x y (fun b => ih l m (fun b' => q (Bool.rec (motive := fun _ => Bool) false b' b)))) m) l) ks
theorem eqsF_eq : ∀ ks l m q, eqsF ks l m q = handB (eqKs ks l m) q
  | [], [], [], _ => rfl
  | [], [], _ :: _, _ => rfl
  | [], _ :: _, _, _ => rfl
  | _ :: _, [], _, _ => rfl
  | _ :: _, _ :: _, [], _ => rfl
  | k :: ks, x :: l, y :: m, q => by
    show eq1F k x y (fun b => eqsF ks l m (fun b' => q (Bool.rec (motive := fun _ => Bool) false b' b))) = _
    rw [eq1F_eq]
    simp only [eqsF_eq ks l m, eqKs]
    cases eqK k x y with
    | none => rfl
    | some b =>
      cases b with
      | true => simp only [handB]
      | false => simp only [handB]; cases eqKs ks l m <;> rfl
noncomputable def eqAF (ks : List EK) (x y : AV) (q : Bool → R) : R :=
  match x with
  | .agg l => match y with
    | .agg m => eqsF ks l m q
    | _ => .bad
  | _ => .bad
noncomputable def eqKF (k : EK) (x y : AV) (q : Bool → R) : R :=
  match k with
  | .b => eqBF x y q
  | .i => eqIF x y q
  | .s => eqSF x y q
  | .ag ks => eqAF ks x y q
  | k => handB (eqK k x y) q
theorem eqKF_eq (k x y q) : eqKF k x y q = handB (eqK k x y) q := by
  cases k
  case b => exact eqBF_eq x y q
  case i => exact eqIF_eq x y q
  case s => exact eqSF_eq x y q
  case ag ks =>
    cases x
    case agg l =>
      cases y
      case agg m => exact eqsF_eq ks l m q
      all_goals rfl
    all_goals rfl
  all_goals rfl

noncomputable def okKeyF (ek : EK) (v : AV) : Bool := match ek with | .ag ks => okKey (.ag ks) v | _ => true
theorem okKeyF_eq (ek v) : okKeyF ek v = okKey ek v := by cases ek <;> rfl

def handF (o : Option (Option AV)) (q : Option AV → R) : R := match o with | some v => q v | none => .bad
noncomputable def findF (ek : EK) (k : AV) (es : List (AV × AV)) (q : Option AV → R) : R :=
  List.rec (motive := fun _ => R) (q none) (fun p _ ih => Prod.rec (motive := fun _ => R) (fun a v => eqKF ek k a (fun b => Bool.rec (motive := fun _ => R) ih (q (some v)) b)) p) es
theorem findF_eq (ek k) : ∀ es q, findF ek k es q = handF (findE ek k es) q
  | [], _ => rfl
  | (a, v) :: es, q => by
    show eqKF ek k a (fun b => Bool.rec (motive := fun _ => R) (findF ek k es q) (q (some v)) b) = _
    rw [eqKF_eq, findF_eq ek k es q]
    simp only [findE]
    cases eqK ek k a with
    | none => rfl
    | some b => cases b <;> rfl
def handE (o : Option (List (AV × AV))) (q : List (AV × AV) → R) : R := match o with | some v => q v | none => .bad
noncomputable def setF (ek : EK) (k v : AV) (es : List (AV × AV)) : (List (AV × AV) → R) → R :=
  List.rec (motive := fun _ => (List (AV × AV) → R) → R) (fun q => q [(k, v)])
    (fun p t ih q => Prod.rec (motive := fun _ => R) (fun a u => eqKF ek k a (fun b => Bool.rec (motive := fun _ => R) (ih (fun l => q ((a, u) :: l))) (q ((k, v) :: t)) b)) p) es
theorem setF_eq (ek k v) : ∀ es q, setF ek k v es q = handE (setE ek k v es) q
  | [], _ => rfl
  | (a, u) :: es, q => by
    show eqKF ek k a (fun b => Bool.rec (motive := fun _ => R) (setF ek k v es (fun l => q ((a, u) :: l))) (q ((k, v) :: es)) b) = _
    rw [eqKF_eq, setF_eq ek k v es]
    simp only [setE]
    cases eqK ek k a with
    | none => rfl
    | some b =>
      cases b with
      | true => rfl
      | false => simp only [handB]; cases setE ek k v es <;> rfl

noncomputable def cellsF (v : AV) (k : List AV → R) : R :=
  match v with
  | .agg l => k l
  | .unk => .bad
  | .tup _ => .bad
  | v => k [v]
theorem cellsF_eq (v k) : cellsF v k = handL (cellsOf v) k := by cases v <;> rfl
noncomputable def fillF (T : AT) (ps : List (Nat × Nat × AX)) : List AV → (List AV → R) → R :=
  List.rec (motive := fun _ => List AV → (List AV → R) → R) (fun cells k => k cells)
    (fun p _ ih cells k => Prod.rec (motive := fun _ => R) (fun o p => Prod.rec (motive := fun _ => R) (fun n x => cellsF (evF T x) (fun c => Bool.rec (motive := fun _ => R) .bad (Bool.rec (motive := fun _ => R) .bad (ih (putAtF c o cells) k) (Nat.ble (Nat.add o n) (lenF cells))) (Nat.beq (lenF c) n))) p) p) ps
theorem fillF_eq (T) : ∀ ps cells k, fillF T ps cells k = handL (fillA cells (evps T ps)) k
  | [], _, _ => rfl
  | (o, n, x) :: ps, cells, k => by
    show cellsF (evF T x) (fun c => Bool.rec (motive := fun _ => R) .bad (Bool.rec (motive := fun _ => R) .bad (fillF T ps (putAtF c o cells) k) (Nat.ble (Nat.add o n) (lenF cells))) (Nat.beq (lenF c) n)) = _
    simp only [cellsF_eq, evF_eq, lenF_eq, putAtF_eq, fillF_eq T ps, evps, fillA]
    cases cellsOf (x.ev T) with
    | none => rfl
    | some c =>
      simp only [handL]
      show Bool.rec (motive := fun _ => R) R.bad (Bool.rec (motive := fun _ => R) R.bad _ (Nat.ble (o + n) cells.length)) (Nat.beq c.length n) = _
      cases Nat.beq c.length n <;> cases Nat.ble (o + n) cells.length <;> rfl

noncomputable def evoF (T : AT) (x : Option AX) : Option AV := Option.rec (motive := fun _ => Option AV) none (fun x => some (evF T x)) x
theorem evoF_eq (T x) : evoF T x = evo T x := by cases x with | none => rfl | some x => exact congrArg some (evF_eq T x)
noncomputable def nthNF (o : Nat) : List Nat → (Nat → R) → R :=
  Nat.rec (motive := fun _ => List Nat → (Nat → R) → R) (fun l k => List.rec (motive := fun _ => R) .bad (fun x _ _ => k x) l) (fun _ ih l k => List.rec (motive := fun _ => R) .bad (fun _ t _ => ih t k) l) o
theorem nthNF_eq : ∀ (o : Nat) (l : List Nat) (k : Nat → R), nthNF o l k = handM (nthN l o) k
  | 0, [], _ => rfl
  | 0, _ :: _, _ => rfl
  | _ + 1, [], _ => rfl
  | o + 1, _ :: l, k => nthNF_eq o l k

abbrev Step := Call → AT → AH → K → R
def contK (o : Option (AT × AH)) (k : K) : R := match o with | some (T, H) => k T H | none => .bad
/-- by the plain machine -/
def gen (op : AI) : Step := fun _ T H k => andThen (val T H op) (fun v H => k (AM.putO T op.dst v) H)

noncomputable def sMov (d : Pos) (x : AX) : Step := fun _ T H k => k (put d (evF T x) T) H
noncomputable def sPick (d : Pos) (c a b : AX) : Step := fun _ T H k => match evF T c with
  | .bool z => k (put d (Bool.rec (motive := fun _ => AV) (evF T b) (evF T a) z) T) H
  | _ => .bad
noncomputable def sAlloc (d : Pos) (e : TypeId) (z : List AV) : Step := fun _ T H k => newRowF H e z true (fun b H => k (put d (.ptr b 0) T) H)
noncomputable def sBox (d : Pos) (e : TypeId) (n : Nat) (x : AX) : Step := fun _ T H k => cellsF (evF T x) (fun c => Bool.rec (motive := fun _ => R) .bad (newRowF H e c true (fun b H => k (put d (.ptr b 0) T) H)) (Nat.beq (lenF c) n))
noncomputable def sBuild (d : Pos) (z : List AV) (ps : List (Nat × Nat × AX)) : Step := fun _ T H k => fillF T ps z (fun c => k (put d (.agg c) T) H)
noncomputable def sBslc (d : Pos) (e : TypeId) (sz len : Nat) (z : List AV) (ps : List (Nat × Nat × AX)) : Step := fun _ T H k => fillF T ps z (fun c => newRowF H e c true (fun b H => k (put d (.slc b 0 len len sz true) T) H))
noncomputable def sLoad (d : Pos) (g : Option Nat) (x : AX) : Step := fun _ T H k => loadF H g (evF T x) (fun v => k (put d v T) H)
noncomputable def sStore (n : Nat) (x y : AX) : Step := fun _ T H k => match evF T x with
  | .ptr b o => cellsF (evF T y) (fun c => Bool.rec (motive := fun _ => R) .bad (writeF H b o c (fun H => k T H)) (Nat.beq (lenF c) n))
  | _ => .bad
noncomputable def sBin (d : Pos) (op : BinOp) (x y : AX) : Step := fun _ T H k => binF op (evF T x) (evF T y) (fun v => k (put d v T) H)
noncomputable def sEq (d : Pos) (ek : EK) (neg : Bool) (x y : AX) : Step := fun _ T H k => eqKF ek (evF T x) (evF T y) (fun b => k (put d (.bool (Bool.rec (motive := fun _ => Bool) neg (notB neg) b)) T) H)
noncomputable def sNot (d : Pos) (x : AX) : Step := fun _ T H k => match evF T x with
  | .bool b => k (put d (.bool (notB b)) T) H
  | _ => .bad
noncomputable def sConv (d : Pos) (j : IntKind) (x : AX) : Step := fun _ T H k => match evF T x with
  | .int _ n => k (put d (.int j (wrapF j n)) T) H
  | _ => .bad
noncomputable def sMkif (d : Pos) (t : TypeId) (x : AX) : Step := fun _ T H k => match evF T x with
  | .unk => .bad
  | v => k (put d (.ifc t v) T) H
noncomputable def sMkfn (d : Pos) (f : FuncId) (cap : List AX) : Step := fun _ T H k => k (put d (.fn f (evsF T cap)) T) H
noncomputable def sMkmap (d : Pos) : Step := fun _ T H k => newF H (fun _ => .map []) (fun b H => k (put d (.map b) T) H)
noncomputable def sSlc (d : Pos) (sz : Nat) (x : AX) (lo hi mx : Option AX) : Step := fun _ T H k => sliceF sz (evF T x) (evoF T lo) (evoF T hi) (evoF T mx) (fun v => k (put d v T) H)
noncomputable def sSub (d : Pos) (x : AX) (lo hi : Option AX) : Step := fun _ T H k => match evF T x with
  | .str s => boundF (lenF s) (lenF s) (evoF T hi) (fun h => boundF 0 h (evoF T lo) (fun l => k (put d (.str (dropF l (takeF h s))) T) H))
  | _ => .bad
noncomputable def sFadr (d : Pos) (x : AX) (off : Nat) : Step := fun _ T H k => match evF T x with
  | .ptr b o => k (put d (.ptr b (Nat.add o off)) T) H
  | _ => .bad
noncomputable def sFld (d : Pos) (x : AX) (off : Nat) (g : Option Nat) : Step := fun _ T H k => match evF T x with
  | .agg l => Option.rec (motive := fun _ => R) (nthF off l (fun v => k (put d v T) H)) (fun n => takeX n (dropF off l) (fun l => k (put d (.agg l) T) H)) g
  | _ => .bad
noncomputable def sIadr (d : Pos) (sz : Nat) (x i : AX) : Step := fun _ T H k => match evF T x with
  | .slc b o n _ _ _ => asNatF (evF T i) (fun j => Bool.rec (motive := fun _ => R) .bad (k (put d (.ptr b (Nat.add o (Nat.mul j sz))) T) H) (Nat.blt j n))
  | _ => .bad
noncomputable def sAadr (d : Pos) (sz n : Nat) (x i : AX) : Step := fun _ T H k => match evF T x with
  | .ptr b o => asNatF (evF T i) (fun j => Bool.rec (motive := fun _ => R) .bad (k (put d (.ptr b (Nat.add o (Nat.mul j sz))) T) H) (Nat.blt j n))
  | _ => .bad
noncomputable def sIdx (d : Pos) (x i : AX) : Step := fun _ T H k => match evF T x with
  | .str s => asNatF (evF T i) (fun j => nthNF j s (fun b => k (put d (.int .u8 (Int.ofNat b)) T) H))
  | _ => .bad
noncomputable def lookHF (H : AH) (ek : EK) (x i : AV) (q : Option AV → R) : R :=
  match x with
  | .nilm => q none
  | .map b => match trGet b H.bl with
    | some (.map es) => findF ek i es q
    | _ => .bad
  | _ => .bad
noncomputable def sLook (d : Pos) (ek : EK) (z : AV) (x i : AX) (ok : Bool) : Step := fun _ T H k => Bool.rec (motive := fun _ => R) .bad
  (lookHF H ek (evF T x) (evF T i) (fun o => Option.rec (motive := fun _ => R) (k (put d (Bool.rec (motive := fun _ => AV) z (.tup [z, .bool false]) ok) T) H) (fun v => k (put d (Bool.rec (motive := fun _ => AV) v (.tup [v, .bool true]) ok) T) H) o)) (okKeyF ek (evF T i))
noncomputable def sMset (ek : EK) (m j v : AX) : Step := fun _ T H k => Bool.rec (motive := fun _ => R) .bad
  (match evF T m with
    | .map b => match trGet b H.bl with
      | some (.map es) => setF ek (evF T j) (evF T v) es (fun es => k T ⟨trSet (some (.map es)) b H.bl, H.cv, H.nx, H.pk, H.rs⟩)
      | _ => .bad
    | _ => .bad) (okKeyF ek (evF T j))
noncomputable def sExt (d : Pos) (x : AX) (i : Nat) : Step := fun _ T H k => match evF T x with
  | .tup l => nthF i l (fun v => k (put d v T) H)
  | _ => .bad
noncomputable def sLenS (d : Pos) (x : AX) : Step := fun _ T H k => match evF T x with
  | .str s => k (put d (.int .i64 (Int.ofNat (lenF s))) T) H
  | _ => .bad
noncomputable def sLenL (d : Pos) (x : AX) : Step := fun _ T H k => match evF T x with
  | .nils => k (put d (.int .i64 (Int.ofNat 0)) T) H
  | .slc _ _ n _ _ _ => k (put d (.int .i64 (Int.ofNat n)) T) H
  | _ => .bad
noncomputable def sLen (d : Pos) (ek : EK) (x : AX) : Step :=
  match ek with
  | .s => sLenS d x
  | .nsl => sLenL d x
  | ek => gen (.len d ek x)
noncomputable def sApp (d : Pos) (e : TypeId) (sz by_ : Nat) (x y : AX) : Step := fun _ T H k => elemsF H sz (evF T y) (fun m news => appendToF H e sz by_ (evF T x) m news (fun v H => k (put d v T) H))
noncomputable def copyF (H : AH) (sz : Nat) (x : AV) (m : Nat) (news : List AV) (k : AV → AH → R) : R :=
  match x with
  | .nils => k (.int .i64 (Int.ofNat 0)) H
  | .slc b o n _ _ _ => writeF H b o (takeF (Nat.mul (min m n) sz) news) (fun H => k (.int .i64 (Int.ofNat (min m n))) H)
  | _ => .bad
noncomputable def sCopy (d : Option Pos) (sz : Nat) (x y : AX) : Step := fun _ T H k => elemsF H sz (evF T y) (fun m news => copyF H sz (evF T x) m news (fun v H => k (putO d v T) H))
noncomputable def sNilck (d : Pos) (x : AX) : Step := fun _ T H k => match evF T x with
  | .ptr b o => k (put d (.ptr b o) T) H
  | .fn f c => k (put d (.fn f c) T) H
  | _ => .bad
noncomputable def sCall (d : Option Pos) (f : AX) (args : List AX) : Step := fun c T H k => c (evF T f) (evsF T args) H (fun v H => k (putO d v T) H)
noncomputable def sGd (g : Pos) (b : Bool) (d : Option Pos) (s : Step) : Step := fun c T H k => match evF T (.t g) with
  | .bool x => Bool.rec (motive := fun _ => R) (k (putO d (.tup []) T) H) (s c T H k) (Bool.rec (motive := fun _ => Bool) (notB b) b x)
  | .tup [] => k (putO d (.tup []) T) H
  | _ => .bad
def sChk (d : Pos) (op : AI) : Step := fun _ T H k => match val T H op with
  | some (v, _) => if same v ((AX.t d).ev T) then k T H else .bad
  | none => .bad
def sBad : Step := fun _ _ _ _ => .bad

noncomputable def disp (gd : Pos → Bool → Option Pos → AI → Step) (ch : Pos → AI → Step) (i : AI) : Step :=
  AI.rec (motive := fun _ => Step) sMov sPick sAlloc sBox sBuild sBslc sLoad sStore sBin sEq sNot (fun d x => gen (.neg d x)) sConv (fun d x => gen (.strc d x)) sMkif sMkfn sMkmap
    (fun d e sz by_ z l c => gen (.mkslc d e sz by_ z l c)) sSlc sSub sFadr sFld sIadr sAadr sIdx sLook sMset (fun d ek m k => gen (.mdel d ek m k)) sExt sLen sApp sCopy (fun d z x => gen (.clear d z x)) sNilck sCall
    (fun g b d op _ => gd g b d op) (fun d op _ => ch d op) (fun _ => sBad) i
noncomputable def stepI (i : AI) : Step := disp (fun _ _ _ _ => sBad) (fun _ _ => sBad) i
noncomputable def stepF (i : AI) : Step := disp (fun g b d op => sGd g b d (stepI op)) sChk i

def PlainIs (i : AI) : Prop := ∀ (gd : Pos → Bool → Option Pos → AI → Step) (ch : Pos → AI → Step) (cF : Call) (T : AT) (H : AH) (k : K), disp gd ch i cF T H k = andThen (val T H i) (fun v H => k (AM.putO T i.dst v) H)

theorem plain_is (i : AI) (h : plain i = true) : PlainIs i := by
  intro gd ch cF T H k
  cases i
  case mov d x => show k (put d (evF T x) T) H = _; rw [put_eq, evF_eq]; rfl
  case pick d c a b =>
    show sPick d c a b cF T H k = _
    simp only [sPick, evF_eq, put_eq, AM.val]
    cases c.ev T <;> try rfl
    rename_i z; cases z <;> rfl
  case alloc d e z => show sAlloc d e z cF T H k = _; simp only [sAlloc, newRowF_eq, put_eq]; rfl
  case box d e n x =>
    show sBox d e n x cF T H k = _
    simp only [sBox, cellsF_eq, evF_eq, newRowF_eq, put_eq, lenF_eq, AM.val]
    cases cellsOf (x.ev T) with
    | none => rfl
    | some c => simp only [handL]; cases Nat.beq c.length n <;> rfl
  case build d z ps =>
    show sBuild d z ps cF T H k = _
    simp only [sBuild, fillF_eq, put_eq, AM.val]
    cases fillA z (evps T ps) <;> rfl
  case bslc d e sz len z ps =>
    show sBslc d e sz len z ps cF T H k = _
    simp only [sBslc, fillF_eq, put_eq, newRowF_eq, AM.val]
    cases fillA z (evps T ps) <;> rfl
  case load d g x =>
    show sLoad d g x cF T H k = _
    simp only [sLoad, loadF_eq, evF_eq, put_eq, AM.val]
    cases H.loadG g (x.ev T) <;> rfl
  case store n x y =>
    show sStore n x y cF T H k = _
    simp only [sStore, evF_eq, cellsF_eq, lenF_eq, writeF_eq, AM.val]
    cases x.ev T <;> try rfl
    rename_i b o
    simp only []
    cases cellsOf (y.ev T) with
    | none => rfl
    | some c =>
      simp only [handL]
      cases Nat.beq c.length n with
      | false => rfl
      | true => simp only [if_true]; cases H.write b o c <;> rfl
  case bin d op x y =>
    show sBin d op x y cF T H k = _
    simp only [sBin, binF_eq, evF_eq, put_eq, AM.val]
    cases binV op (x.ev T) (y.ev T) <;> rfl
  case eq d ek neg x y =>
    show sEq d ek neg x y cF T H k = _
    simp only [sEq, eqKF_eq, evF_eq, put_eq, AM.val]
    cases eqK ek (x.ev T) (y.ev T) with
    | none => rfl
    | some b => cases b <;> cases neg <;> rfl
  case not d x =>
    show sNot d x cF T H k = _
    simp only [sNot, evF_eq, put_eq, AM.val, notB_eq]
    cases x.ev T <;> rfl
  case neg d x => rfl
  case conv d j x =>
    show sConv d j x cF T H k = _
    simp only [sConv, evF_eq, put_eq, AM.val, wrapF_eq]
    cases x.ev T <;> rfl
  case strc d x => rfl
  case mkif d t x =>
    show sMkif d t x cF T H k = _
    simp only [sMkif, evF_eq, put_eq, AM.val]
    cases x.ev T <;> rfl
  case mkfn d f cap => show k (put d (.fn f (evsF T cap)) T) H = _; rw [put_eq, evsF_eq]; rfl
  case mkmap d => show sMkmap d cF T H k = _; simp only [sMkmap, newF_eq, put_eq]; rfl
  case mkslc => rfl
  case slc d sz x lo hi mx =>
    show sSlc d sz x lo hi mx cF T H k = _
    simp only [sSlc, sliceF_eq, evF_eq, evoF_eq, put_eq, AM.val]
    cases sliceA sz (x.ev T) (evo T lo) (evo T hi) (evo T mx) <;> rfl
  case sub d x lo hi =>
    show sSub d x lo hi cF T H k = _
    simp only [sSub, evF_eq, evoF_eq, put_eq, boundF_eq, lenF_eq, dropF_eq, takeF_eq, AM.val]
    cases x.ev T <;> try rfl
    rename_i s
    simp only []
    cases bound? s.length s.length (evo T hi) with
    | none => rfl
    | some h =>
      simp only [handM]
      cases bound? 0 h (evo T lo) <;> rfl
  case fadr d x off =>
    show sFadr d x off cF T H k = _
    simp only [sFadr, evF_eq, put_eq, AM.val]
    cases x.ev T <;> rfl
  case fld d x off g =>
    show sFld d x off g cF T H k = _
    simp only [sFld, evF_eq, put_eq, AM.val, nthF_get, takeX_slice]
    cases x.ev T <;> try rfl
    rename_i l
    cases g with
    | none => simp only []; cases nthV l off <;> rfl
    | some n => simp only []; cases slice? l off n <;> rfl
  case iadr d sz x i =>
    show sIadr d sz x i cF T H k = _
    simp only [sIadr, evF_eq, put_eq, AM.val, asNatF_eq]
    cases x.ev T <;> try rfl
    simp only []
    cases asNat? (i.ev T) with
    | none => rfl
    | some j =>
      rename_i b o n c s ex
      simp only [handM]; cases Nat.blt j n <;> rfl
  case aadr d sz n x i =>
    show sAadr d sz n x i cF T H k = _
    simp only [sAadr, evF_eq, put_eq, AM.val, asNatF_eq]
    cases x.ev T <;> try rfl
    simp only []
    cases asNat? (i.ev T) with
    | none => rfl
    | some j => simp only [handM]; cases Nat.blt j n <;> rfl
  case idx d x i =>
    show sIdx d x i cF T H k = _
    simp only [sIdx, evF_eq, put_eq, AM.val, asNatF_eq, nthNF_eq]
    cases x.ev T <;> try rfl
    rename_i s
    simp only []
    cases asNat? (i.ev T) with
    | none => rfl
    | some j => simp only [handM]; cases nthN s j <;> rfl
  case look d ek z x i ok =>
    show sLook d ek z x i ok cF T H k = _
    simp only [sLook, evF_eq, put_eq, okKeyF_eq, AM.val]
    cases okKey ek (i.ev T) with
    | false => rfl
    | true =>
      simp only [Bool.not_true, Bool.false_eq_true, if_false]
      show lookHF H ek (x.ev T) (i.ev T) _ = _
      simp only [lookHF, AH.lookE, trGet_eq, findF_eq]
      cases x.ev T <;> try rfl
      case map b =>
        simp only []
        cases H.bl.get b with
        | none => rfl
        | some bb =>
          cases bb <;> try rfl
          rename_i es
          simp only []
          cases findE ek (i.ev T) es with
          | none => rfl
          | some o => cases o <;> cases ok <;> rfl
      case nilm => cases ok <;> rfl
  case mset ek m j v =>
    show sMset ek m j v cF T H k = _
    simp only [sMset, evF_eq, okKeyF_eq, AM.val]
    cases okKey ek (j.ev T) with
    | false => rfl
    | true =>
      simp only [Bool.not_true, Bool.false_eq_true, if_false]
      cases m.ev T <;> try rfl
      rename_i b
      simp only [trGet_eq, trSet_eq, setF_eq]
      cases H.bl.get b with
      | none => rfl
      | some bb =>
        cases bb <;> try rfl
        rename_i es
        simp only []
        cases setE ek (j.ev T) (v.ev T) es <;> rfl
  case mdel => rfl
  case ext d x i =>
    show sExt d x i cF T H k = _
    simp only [sExt, evF_eq, put_eq, nthF_get, AM.val]
    cases x.ev T <;> try rfl
    rename_i l
    simp only []
    cases nthV l i <;> rfl
  case len d ek x =>
    cases ek
    case s =>
      show sLenS d x cF T H k = _
      simp only [sLenS, evF_eq, put_eq, lenF_eq, AM.val]
      cases x.ev T <;> rfl
    case nsl =>
      show sLenL d x cF T H k = _
      simp only [sLenL, evF_eq, put_eq, AM.val]
      cases x.ev T <;> rfl
    all_goals rfl
  case app d e sz by_ x y =>
    show sApp d e sz by_ x y cF T H k = _
    simp only [sApp, elemsF_eq, appendToF_eq, evF_eq, put_eq, AM.val]
    cases H.elems sz (y.ev T) <;> rfl
  case copy d sz x y =>
    show sCopy d sz x y cF T H k = _
    simp only [sCopy, elemsF_eq, evF_eq, putO_eq, AM.val]
    cases H.elems sz (y.ev T) with
    | none => rfl
    | some p =>
      obtain ⟨m, news⟩ := p
      simp only [handN, copyF, AH.copyTo, writeF_eq, takeF_eq]
      cases x.ev T <;> try rfl
      rename_i b o n c s ex
      simp only []
      show handH (H.write b o (news.take (min m n * sz))) _ = _
      cases H.write b o (news.take (min m n * sz)) <;> rfl
  case clear => rfl
  case nilck d x =>
    show sNilck d x cF T H k = _
    simp only [sNilck, evF_eq, put_eq, AM.val]
    cases x.ev T <;> rfl
  case bad d => rfl
  all_goals (simp [plain] at h)

theorem exec1_plain {c i T H} (h : plain i = true) : exec1 c i T H = match val T H i with | some (v, H) => some (AM.putO T i.dst v, H) | none => none := by
  cases i <;> first | rfl | (simp [plain] at h)
theorem contK_plain {c i T H k} (h : plain i = true) : contK (exec1 c i T H) k = andThen (val T H i) (fun v H => k (AM.putO T i.dst v) H) := by
  rw [exec1_plain h]; cases val T H i <;> rfl

theorem sCall_eq {cF c} (hc : CallIs cF c) (d f args T H k) : sCall d f args cF T H k = contK (exec1 c (.call d f args) T H) k := by
  simp only [sCall, evF_eq, evsF_eq, putO_eq, exec1]
  rw [hc]
  cases c (f.ev T) (evs T args) H <;> rfl

theorem stepF_eq {cF c} (hc : CallIs cF c) (i T H k) : stepF i cF T H k = contK (exec1 c i T H) k := by
  cases hp : plain i with
  | true => rw [contK_plain hp]; exact plain_is i hp _ _ cF T H k
  | false =>
    cases i
    case call d f args => exact sCall_eq hc d f args T H k
    case gd g b d op =>
      show sGd g b d (stepI op) cF T H k = _
      simp only [sGd, evF_eq, putO_eq, exec1]
      cases (AX.t g).ev T <;> try rfl
      case tup l => cases l <;> rfl
      rename_i x
      simp only []
      have hb : Bool.rec (motive := fun _ => Bool) (notB b) b x = (x == b) := by cases x <;> cases b <;> rfl
      rw [hb]
      cases hx : (x == b) with
      | false => rfl
      | true =>
        simp only [if_true]
        cases hq : plain op with
        | true =>
          show stepI op cF T H k = _
          have h1 : stepI op cF T H k = _ := plain_is op hq (fun _ _ _ _ => sBad) (fun _ _ => sBad) cF T H k
          rw [h1]
          cases op <;> first | (simp [plain] at hq; done) | (dsimp only; cases val T H _ <;> rfl)
        | false =>
          cases op
          case call d' f' args' => exact sCall_eq hc d' f' args' T H k
          case gd => rfl
          case chk => rfl
          all_goals (simp [plain] at hq)
    case chk d op =>
      show sChk d op cF T H k = _
      simp only [sChk, exec1]
      cases val T H op with
      | none => rfl
      | some p =>
        obtain ⟨v, H'⟩ := p
        simp only []
        split <;> rfl
    all_goals (simp [plain] at hp)

noncomputable def opsF (cF : Call) (l : List AI) : AT → AH → R :=
  List.rec (motive := fun _ => AT → AH → R) (fun T H => .fin T H) (fun i _ ih T H => stepF i cF T H ih) l
theorem opsF_eq {cF c} (hc : CallIs cF c) : ∀ l T H, opsF cF l T H = execOps c l T H
  | [], _, _ => rfl
  | i :: l, T, H => by
    show stepF i cF T H (opsF cF l) = _
    rw [stepF_eq hc, execOps_cons]
    cases exec1 c i T H with
    | none => rfl
    | some p => obtain ⟨T, H⟩ := p; exact opsF_eq hc l T H
end Go.AM.F
